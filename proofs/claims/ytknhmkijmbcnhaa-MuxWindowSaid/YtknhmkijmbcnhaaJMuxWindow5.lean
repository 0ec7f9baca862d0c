/- MuxWindow, part 5 of 6: what the proof of the law rests on. Conditions: none. -/
import Derived.Test.YtknhmkijmbcnhaaJMuxWindow4
set_option linter.unusedSimpArgs false
set_option linter.unusedVariables false
/- Mx9: the walk of opened. Conditions: none. -/
set_option maxRecDepth 100000
set_option linter.unusedSimpArgs false
set_option linter.unusedVariables false
namespace Go.Abs
open Go.Proofs
/-- The last stream of the other end. -/
def lastS (m : MuxS) (l : List Strm) : Nat := l.foldl (fun a s => if ownS m s.id = true then a else s.id) 0
theorem lastS_take (m : MuxS) {l : List Strm} {i : Nat} {s : Strm} (h : l[i]? = some s) : lastS m (l.take (i + 1)) = if ownS m s.id = true then lastS m (l.take i) else s.id := by
  rw [List.take_add_one, h]
  unfold lastS
  rw [List.foldl_append]
  rfl
def openedE (m : MuxS) (id : Nat) (head : List UInt8) : Nat :=
  if id = 0 ∨ ownS m id = true ∨ id ≤ lastS m m.streams ∨ 512 < head.length then 3 else if countS m false m.streams = 16 then 5 else 0
def openedM (m : MuxS) (id : Nat) (head : List UInt8) : MuxS := if openedE m id head = 0 then { m with streams := m.streams ++ [newStrm m id head] } else m
theorem opened_q (m : MuxS) (id : Nat) (head : List UInt8) {h : AHeap} {p : Nat} {sb : Option Nat} {ids : List Nat} (a : MuxAt h p sb ids m) (hl : ids.length < 2 ^ 40) (hid : openedE m id head = 0 → ∀ s, s ∈ m.streams → s.id < id) (hh : head.length < 2 ^ 40) :
    FW cx 46 [ptrC p, .int .i64 id, .string (str head)] h fun v h' => v = .int .i64 (openedE m id head : Nat) ∧ ∃ sb' ids', MuxAt h' p sb' ids' (openedM m id head) ∧ Upd h h' (foot p sb ids) (foot p sb' ids') := by
  unfold ptrC
  refine FW_f Try.func46 rfl (by decide +kernel) ?_
  simp -dsimp -implicitDefEqProofs (disch := first | omega | (simp only [stT, u_0, ag_0, sz_0, by_0, ze_0, es_0, u_3, ag_3, sz_3, by_3, ze_3, es_3, u_4, ag_4, sz_4, by_4, ze_4, bo_4, es_4, u_9, ag_9, sz_9, by_9, ze_9, es_9, u_26, ag_26, sz_26, by_26, ze_26, es_26, u_27, ag_27, sz_27, by_27, ze_27, es_27, u_53, ag_53, sz_53, by_53, ze_53, es_53, u_55, f_55_0, f_55_1, f_55_2, f_55_3, f_55_4, f_55_5, f_55_6, f_55_7, f_55_8, ag_55, sz_55, by_55, ze_55, pl_55, es_55, u_57, ag_57, sz_57, by_57, ze_57, es_57, u_63, f_63_0, f_63_1, f_63_2, f_63_3, f_63_4, f_63_5, f_63_6, f_63_7, f_63_8, f_63_9, f_63_10, ag_63, sz_63, by_63, ze_63, pl_63, es_63]; done) | (simp only [List.append_assoc, List.cons_append, List.nil_append, pre_n, pre_c, pre_a, pre_g, pre_r]; done) | (simp only [List.length_set]; done) | (simp only [List.length_set]; omega) | assumption | decide +kernel | fail) only [↓RP, RQ, isConstA, Nat.reduceEqDiff, Nat.reduceLT, Nat.reduceAdd, Int.reduceNeg, Int.reduceLT, Int.reduceLE, Int.reduceToNat, Int.reduceEq, ↓reduceIte, ite_true, ite_false, Option.toList, Nat.reduceMul, Nat.reduceSub, Nat.reduceLeDiff, ne_eq, eq_self, u_0, ag_0, sz_0, by_0, ze_0, es_0, u_3, ag_3, sz_3, by_3, ze_3, es_3, u_4, ag_4, sz_4, by_4, ze_4, bo_4, es_4, u_9, ag_9, sz_9, by_9, ze_9, es_9, u_26, ag_26, sz_26, by_26, ze_26, es_26, u_27, ag_27, sz_27, by_27, ze_27, es_27, u_53, ag_53, sz_53, by_53, ze_53, es_53, u_55, f_55_0, f_55_1, f_55_2, f_55_3, f_55_4, f_55_5, f_55_6, f_55_7, f_55_8, ag_55, sz_55, by_55, ze_55, pl_55, es_55, u_57, ag_57, sz_57, by_57, ze_57, es_57, u_63, f_63_0, f_63_1, f_63_2, f_63_3, f_63_4, f_63_5, f_63_6, f_63_7, f_63_8, f_63_9, f_63_10, ag_63, sz_63, by_63, ze_63, pl_63, es_63, ↓AW_loop, a.top, muxC]
  have hlen := a.len
  refine LW_rule (fun n fr h' => ∃ (i : Nat) (g : AHeap), i ≤ ids.length ∧ n = ids.length - i ∧ fget fr 15 = .int .i64 i ∧ fget fr 14 = .int .i64 ids.length ∧ fget fr 13 = .slice (slA sb) ids.length ids.length ∧ fget fr 0 = .pointer (some ⟨p, 0, none⟩) ∧ fget fr 1 = .int .i64 id ∧ fget fr 2 = .string (str head) ∧ fget fr 7 = .int .i64 (lastS m (m.streams.take i)) ∧ h' = h ++ g) ?_ ids.length _ _ ⟨0, [], by omega, rfl, ?_⟩
  · rintro n fr h' ⟨i, g, hi, hn, f15, f14, f13, f0, f1, f2, f7, rfl⟩
    by_cases hlt : i < ids.length
    · obtain ⟨s, hs⟩ : ∃ s, m.streams[i]? = some s := ⟨_, List.getElem?_eq_getElem (by omega)⟩
      obtain ⟨b, hb⟩ : ∃ b, ids[i]? = some b := ⟨_, List.getElem?_eq_getElem hlt⟩
      have hct := lastS_take m hs
      rcases a.sl with ⟨_, rfl⟩ | ⟨c, rfl, hc⟩
      · simp at hlt
      · have hlt' : (i : Int) < ids.length := by omega
        have hcX := fun X => blkA_app X hc
        have hbX := fun X => blkA_app X (a.str i s b hs hb)
        have hcell : (ids.map ptrC)[i]? = some (.pointer (some ⟨b, 0, none⟩)) := by rw [List.getElem?_map, hb]; rfl
        unfold slA at f13
        simp only [Option.map_some] at f13
        simp -dsimp -implicitDefEqProofs (disch := first | omega | (simp only [stT, u_0, ag_0, sz_0, by_0, ze_0, es_0, u_3, ag_3, sz_3, by_3, ze_3, es_3, u_4, ag_4, sz_4, by_4, ze_4, bo_4, es_4, u_9, ag_9, sz_9, by_9, ze_9, es_9, u_26, ag_26, sz_26, by_26, ze_26, es_26, u_27, ag_27, sz_27, by_27, ze_27, es_27, u_53, ag_53, sz_53, by_53, ze_53, es_53, u_55, f_55_0, f_55_1, f_55_2, f_55_3, f_55_4, f_55_5, f_55_6, f_55_7, f_55_8, ag_55, sz_55, by_55, ze_55, pl_55, es_55, u_57, ag_57, sz_57, by_57, ze_57, es_57, u_63, f_63_0, f_63_1, f_63_2, f_63_3, f_63_4, f_63_5, f_63_6, f_63_7, f_63_8, f_63_9, f_63_10, ag_63, sz_63, by_63, ze_63, pl_63, es_63]; done) | (simp only [List.append_assoc, List.cons_append, List.nil_append, pre_n, pre_c, pre_a, pre_g, pre_r]; done) | (simp only [List.length_set]; done) | (simp only [List.length_set]; omega) | assumption | decide +kernel | fail) only [↓RP, RQ, isConstA, Nat.reduceEqDiff, Nat.reduceLT, Nat.reduceAdd, Int.reduceNeg, Int.reduceLT, Int.reduceLE, Int.reduceToNat, Int.reduceEq, ↓reduceIte, ite_true, ite_false, Option.toList, Nat.reduceMul, Nat.reduceSub, Nat.reduceLeDiff, ne_eq, eq_self, u_0, ag_0, sz_0, by_0, ze_0, es_0, u_3, ag_3, sz_3, by_3, ze_3, es_3, u_4, ag_4, sz_4, by_4, ze_4, bo_4, es_4, u_9, ag_9, sz_9, by_9, ze_9, es_9, u_26, ag_26, sz_26, by_26, ze_26, es_26, u_27, ag_27, sz_27, by_27, ze_27, es_27, u_53, ag_53, sz_53, by_53, ze_53, es_53, u_55, f_55_0, f_55_1, f_55_2, f_55_3, f_55_4, f_55_5, f_55_6, f_55_7, f_55_8, ag_55, sz_55, by_55, ze_55, pl_55, es_55, u_57, ag_57, sz_57, by_57, ze_57, es_57, u_63, f_63_0, f_63_1, f_63_2, f_63_3, f_63_4, f_63_5, f_63_6, f_63_7, f_63_8, f_63_9, f_63_10, ag_63, sz_63, by_63, ze_63, pl_63, es_63, ↓AW_loop, f15, f14, f13, f0, f1, f7, hlt', hcX, hcell, hbX, strmC]
        refine (own_q m s.id (a.app _)).use' fun g2 => ?_
        cases ho : ownS m s.id with
        | true =>
          simp -dsimp -implicitDefEqProofs (disch := first | omega | (simp only [stT, u_0, ag_0, sz_0, by_0, ze_0, es_0, u_3, ag_3, sz_3, by_3, ze_3, es_3, u_4, ag_4, sz_4, by_4, ze_4, bo_4, es_4, u_9, ag_9, sz_9, by_9, ze_9, es_9, u_26, ag_26, sz_26, by_26, ze_26, es_26, u_27, ag_27, sz_27, by_27, ze_27, es_27, u_53, ag_53, sz_53, by_53, ze_53, es_53, u_55, f_55_0, f_55_1, f_55_2, f_55_3, f_55_4, f_55_5, f_55_6, f_55_7, f_55_8, ag_55, sz_55, by_55, ze_55, pl_55, es_55, u_57, ag_57, sz_57, by_57, ze_57, es_57, u_63, f_63_0, f_63_1, f_63_2, f_63_3, f_63_4, f_63_5, f_63_6, f_63_7, f_63_8, f_63_9, f_63_10, ag_63, sz_63, by_63, ze_63, pl_63, es_63]; done) | (simp only [List.append_assoc, List.cons_append, List.nil_append, pre_n, pre_c, pre_a, pre_g, pre_r]; done) | (simp only [List.length_set]; done) | (simp only [List.length_set]; omega) | assumption | decide +kernel | fail) only [↓RP, RQ, isConstA, Nat.reduceEqDiff, Nat.reduceLT, Nat.reduceAdd, Int.reduceNeg, Int.reduceLT, Int.reduceLE, Int.reduceToNat, Int.reduceEq, ↓reduceIte, ite_true, ite_false, Option.toList, Nat.reduceMul, Nat.reduceSub, Nat.reduceLeDiff, ne_eq, eq_self, u_0, ag_0, sz_0, by_0, ze_0, es_0, u_3, ag_3, sz_3, by_3, ze_3, es_3, u_4, ag_4, sz_4, by_4, ze_4, bo_4, es_4, u_9, ag_9, sz_9, by_9, ze_9, es_9, u_26, ag_26, sz_26, by_26, ze_26, es_26, u_27, ag_27, sz_27, by_27, ze_27, es_27, u_53, ag_53, sz_53, by_53, ze_53, es_53, u_55, f_55_0, f_55_1, f_55_2, f_55_3, f_55_4, f_55_5, f_55_6, f_55_7, f_55_8, ag_55, sz_55, by_55, ze_55, pl_55, es_55, u_57, ag_57, sz_57, by_57, ze_57, es_57, u_63, f_63_0, f_63_1, f_63_2, f_63_3, f_63_4, f_63_5, f_63_6, f_63_7, f_63_8, f_63_9, f_63_10, ag_63, sz_63, by_63, ze_63, pl_63, es_63, ↓AW_loop, f15, f14, f13, f0, f1, f7, hbX, strmC]
          refine ⟨ids.length - (i + 1), by omega, i + 1, g ++ g2, by omega, rfl, rfl, rfl, f2, ?_⟩
          rw [hct, if_pos ho]; exact ⟨rfl, rfl⟩
        | false =>
          simp -dsimp -implicitDefEqProofs (disch := first | omega | (simp only [stT, u_0, ag_0, sz_0, by_0, ze_0, es_0, u_3, ag_3, sz_3, by_3, ze_3, es_3, u_4, ag_4, sz_4, by_4, ze_4, bo_4, es_4, u_9, ag_9, sz_9, by_9, ze_9, es_9, u_26, ag_26, sz_26, by_26, ze_26, es_26, u_27, ag_27, sz_27, by_27, ze_27, es_27, u_53, ag_53, sz_53, by_53, ze_53, es_53, u_55, f_55_0, f_55_1, f_55_2, f_55_3, f_55_4, f_55_5, f_55_6, f_55_7, f_55_8, ag_55, sz_55, by_55, ze_55, pl_55, es_55, u_57, ag_57, sz_57, by_57, ze_57, es_57, u_63, f_63_0, f_63_1, f_63_2, f_63_3, f_63_4, f_63_5, f_63_6, f_63_7, f_63_8, f_63_9, f_63_10, ag_63, sz_63, by_63, ze_63, pl_63, es_63]; done) | (simp only [List.append_assoc, List.cons_append, List.nil_append, pre_n, pre_c, pre_a, pre_g, pre_r]; done) | (simp only [List.length_set]; done) | (simp only [List.length_set]; omega) | assumption | decide +kernel | fail) only [↓RP, RQ, isConstA, Nat.reduceEqDiff, Nat.reduceLT, Nat.reduceAdd, Int.reduceNeg, Int.reduceLT, Int.reduceLE, Int.reduceToNat, Int.reduceEq, ↓reduceIte, ite_true, ite_false, Option.toList, Nat.reduceMul, Nat.reduceSub, Nat.reduceLeDiff, ne_eq, eq_self, u_0, ag_0, sz_0, by_0, ze_0, es_0, u_3, ag_3, sz_3, by_3, ze_3, es_3, u_4, ag_4, sz_4, by_4, ze_4, bo_4, es_4, u_9, ag_9, sz_9, by_9, ze_9, es_9, u_26, ag_26, sz_26, by_26, ze_26, es_26, u_27, ag_27, sz_27, by_27, ze_27, es_27, u_53, ag_53, sz_53, by_53, ze_53, es_53, u_55, f_55_0, f_55_1, f_55_2, f_55_3, f_55_4, f_55_5, f_55_6, f_55_7, f_55_8, ag_55, sz_55, by_55, ze_55, pl_55, es_55, u_57, ag_57, sz_57, by_57, ze_57, es_57, u_63, f_63_0, f_63_1, f_63_2, f_63_3, f_63_4, f_63_5, f_63_6, f_63_7, f_63_8, f_63_9, f_63_10, ag_63, sz_63, by_63, ze_63, pl_63, es_63, ↓AW_loop, f15, f14, f13, f0, f1, f7, hbX, strmC]
          refine ⟨ids.length - (i + 1), by omega, i + 1, g ++ g2, by omega, rfl, rfl, rfl, f2, ?_⟩
          rw [hct, if_neg (by rw [ho]; simp)]; exact ⟨rfl, rfl⟩
    · have hi2 : ¬ (i : Int) < ids.length := by omega
      rw [List.take_of_length_le (by omega)] at f7
      have ag := a.app g
      have ug := Upd.app h g (foot p sb ids)
      unfold openedM
      by_cases c1 : id = 0
      · have he : openedE m id head = 3 := by unfold openedE; rw [if_pos (.inl c1)]
        have c1' : (id : Int) = 0 := by omega
        rw [he, if_neg (by decide)]
        simp -dsimp -implicitDefEqProofs (disch := first | omega | (simp only [stT, u_0, ag_0, sz_0, by_0, ze_0, es_0, u_3, ag_3, sz_3, by_3, ze_3, es_3, u_4, ag_4, sz_4, by_4, ze_4, bo_4, es_4, u_9, ag_9, sz_9, by_9, ze_9, es_9, u_26, ag_26, sz_26, by_26, ze_26, es_26, u_27, ag_27, sz_27, by_27, ze_27, es_27, u_53, ag_53, sz_53, by_53, ze_53, es_53, u_55, f_55_0, f_55_1, f_55_2, f_55_3, f_55_4, f_55_5, f_55_6, f_55_7, f_55_8, ag_55, sz_55, by_55, ze_55, pl_55, es_55, u_57, ag_57, sz_57, by_57, ze_57, es_57, u_63, f_63_0, f_63_1, f_63_2, f_63_3, f_63_4, f_63_5, f_63_6, f_63_7, f_63_8, f_63_9, f_63_10, ag_63, sz_63, by_63, ze_63, pl_63, es_63]; done) | (simp only [List.append_assoc, List.cons_append, List.nil_append, pre_n, pre_c, pre_a, pre_g, pre_r]; done) | (simp only [List.length_set]; done) | (simp only [List.length_set]; omega) | assumption | decide +kernel | fail) only [↓RP, RQ, isConstA, Nat.reduceEqDiff, Nat.reduceLT, Nat.reduceAdd, Int.reduceNeg, Int.reduceLT, Int.reduceLE, Int.reduceToNat, Int.reduceEq, ↓reduceIte, ite_true, ite_false, Option.toList, Nat.reduceMul, Nat.reduceSub, Nat.reduceLeDiff, ne_eq, eq_self, u_0, ag_0, sz_0, by_0, ze_0, es_0, u_3, ag_3, sz_3, by_3, ze_3, es_3, u_4, ag_4, sz_4, by_4, ze_4, bo_4, es_4, u_9, ag_9, sz_9, by_9, ze_9, es_9, u_26, ag_26, sz_26, by_26, ze_26, es_26, u_27, ag_27, sz_27, by_27, ze_27, es_27, u_53, ag_53, sz_53, by_53, ze_53, es_53, u_55, f_55_0, f_55_1, f_55_2, f_55_3, f_55_4, f_55_5, f_55_6, f_55_7, f_55_8, ag_55, sz_55, by_55, ze_55, pl_55, es_55, u_57, ag_57, sz_57, by_57, ze_57, es_57, u_63, f_63_0, f_63_1, f_63_2, f_63_3, f_63_4, f_63_5, f_63_6, f_63_7, f_63_8, f_63_9, f_63_10, ag_63, sz_63, by_63, ze_63, pl_63, es_63, ↓AW_loop, f15, f14, hi2, f1, f7, f0, f2, c1']
        exact ⟨rfl, sb, ids, ag, ug⟩
      · have c1' : ¬ (id : Int) = 0 := by omega
        simp -dsimp -implicitDefEqProofs (disch := first | omega | (simp only [stT, u_0, ag_0, sz_0, by_0, ze_0, es_0, u_3, ag_3, sz_3, by_3, ze_3, es_3, u_4, ag_4, sz_4, by_4, ze_4, bo_4, es_4, u_9, ag_9, sz_9, by_9, ze_9, es_9, u_26, ag_26, sz_26, by_26, ze_26, es_26, u_27, ag_27, sz_27, by_27, ze_27, es_27, u_53, ag_53, sz_53, by_53, ze_53, es_53, u_55, f_55_0, f_55_1, f_55_2, f_55_3, f_55_4, f_55_5, f_55_6, f_55_7, f_55_8, ag_55, sz_55, by_55, ze_55, pl_55, es_55, u_57, ag_57, sz_57, by_57, ze_57, es_57, u_63, f_63_0, f_63_1, f_63_2, f_63_3, f_63_4, f_63_5, f_63_6, f_63_7, f_63_8, f_63_9, f_63_10, ag_63, sz_63, by_63, ze_63, pl_63, es_63]; done) | (simp only [List.append_assoc, List.cons_append, List.nil_append, pre_n, pre_c, pre_a, pre_g, pre_r]; done) | (simp only [List.length_set]; done) | (simp only [List.length_set]; omega) | assumption | decide +kernel | fail) only [↓RP, RQ, isConstA, Nat.reduceEqDiff, Nat.reduceLT, Nat.reduceAdd, Int.reduceNeg, Int.reduceLT, Int.reduceLE, Int.reduceToNat, Int.reduceEq, ↓reduceIte, ite_true, ite_false, Option.toList, Nat.reduceMul, Nat.reduceSub, Nat.reduceLeDiff, ne_eq, eq_self, u_0, ag_0, sz_0, by_0, ze_0, es_0, u_3, ag_3, sz_3, by_3, ze_3, es_3, u_4, ag_4, sz_4, by_4, ze_4, bo_4, es_4, u_9, ag_9, sz_9, by_9, ze_9, es_9, u_26, ag_26, sz_26, by_26, ze_26, es_26, u_27, ag_27, sz_27, by_27, ze_27, es_27, u_53, ag_53, sz_53, by_53, ze_53, es_53, u_55, f_55_0, f_55_1, f_55_2, f_55_3, f_55_4, f_55_5, f_55_6, f_55_7, f_55_8, ag_55, sz_55, by_55, ze_55, pl_55, es_55, u_57, ag_57, sz_57, by_57, ze_57, es_57, u_63, f_63_0, f_63_1, f_63_2, f_63_3, f_63_4, f_63_5, f_63_6, f_63_7, f_63_8, f_63_9, f_63_10, ag_63, sz_63, by_63, ze_63, pl_63, es_63, ↓AW_loop, f15, f14, hi2, f1, f7, f0, f2, c1']
        refine (own_q m id ag).use' fun g2 => ?_
        have ag2 := ag.app g2
        have ug2 := ug.more g2
        rw [List.append_assoc] at ag2 ug2
        cases c2 : ownS m id with
        | true =>
          have he : openedE m id head = 3 := by unfold openedE; rw [if_pos (.inr (.inl c2))]
          rw [he, if_neg (by decide)]
          simp -dsimp -implicitDefEqProofs (disch := first | omega | (simp only [stT, u_0, ag_0, sz_0, by_0, ze_0, es_0, u_3, ag_3, sz_3, by_3, ze_3, es_3, u_4, ag_4, sz_4, by_4, ze_4, bo_4, es_4, u_9, ag_9, sz_9, by_9, ze_9, es_9, u_26, ag_26, sz_26, by_26, ze_26, es_26, u_27, ag_27, sz_27, by_27, ze_27, es_27, u_53, ag_53, sz_53, by_53, ze_53, es_53, u_55, f_55_0, f_55_1, f_55_2, f_55_3, f_55_4, f_55_5, f_55_6, f_55_7, f_55_8, ag_55, sz_55, by_55, ze_55, pl_55, es_55, u_57, ag_57, sz_57, by_57, ze_57, es_57, u_63, f_63_0, f_63_1, f_63_2, f_63_3, f_63_4, f_63_5, f_63_6, f_63_7, f_63_8, f_63_9, f_63_10, ag_63, sz_63, by_63, ze_63, pl_63, es_63]; done) | (simp only [List.append_assoc, List.cons_append, List.nil_append, pre_n, pre_c, pre_a, pre_g, pre_r]; done) | (simp only [List.length_set]; done) | (simp only [List.length_set]; omega) | assumption | decide +kernel | fail) only [↓RP, RQ, isConstA, Nat.reduceEqDiff, Nat.reduceLT, Nat.reduceAdd, Int.reduceNeg, Int.reduceLT, Int.reduceLE, Int.reduceToNat, Int.reduceEq, ↓reduceIte, ite_true, ite_false, Option.toList, Nat.reduceMul, Nat.reduceSub, Nat.reduceLeDiff, ne_eq, eq_self, u_0, ag_0, sz_0, by_0, ze_0, es_0, u_3, ag_3, sz_3, by_3, ze_3, es_3, u_4, ag_4, sz_4, by_4, ze_4, bo_4, es_4, u_9, ag_9, sz_9, by_9, ze_9, es_9, u_26, ag_26, sz_26, by_26, ze_26, es_26, u_27, ag_27, sz_27, by_27, ze_27, es_27, u_53, ag_53, sz_53, by_53, ze_53, es_53, u_55, f_55_0, f_55_1, f_55_2, f_55_3, f_55_4, f_55_5, f_55_6, f_55_7, f_55_8, ag_55, sz_55, by_55, ze_55, pl_55, es_55, u_57, ag_57, sz_57, by_57, ze_57, es_57, u_63, f_63_0, f_63_1, f_63_2, f_63_3, f_63_4, f_63_5, f_63_6, f_63_7, f_63_8, f_63_9, f_63_10, ag_63, sz_63, by_63, ze_63, pl_63, es_63, ↓AW_loop, f15, f14, hi2, f1, f7, f0, f2, c1']
          exact ⟨rfl, sb, ids, ag2, ug2⟩
        | false =>
          by_cases c3 : id ≤ lastS m m.streams
          · have c3' : (id : Int) ≤ (lastS m m.streams : Nat) := by omega
            have he : openedE m id head = 3 := by unfold openedE; rw [if_pos (.inr (.inr (.inl c3)))]
            rw [he, if_neg (by decide)]
            simp -dsimp -implicitDefEqProofs (disch := first | omega | (simp only [stT, u_0, ag_0, sz_0, by_0, ze_0, es_0, u_3, ag_3, sz_3, by_3, ze_3, es_3, u_4, ag_4, sz_4, by_4, ze_4, bo_4, es_4, u_9, ag_9, sz_9, by_9, ze_9, es_9, u_26, ag_26, sz_26, by_26, ze_26, es_26, u_27, ag_27, sz_27, by_27, ze_27, es_27, u_53, ag_53, sz_53, by_53, ze_53, es_53, u_55, f_55_0, f_55_1, f_55_2, f_55_3, f_55_4, f_55_5, f_55_6, f_55_7, f_55_8, ag_55, sz_55, by_55, ze_55, pl_55, es_55, u_57, ag_57, sz_57, by_57, ze_57, es_57, u_63, f_63_0, f_63_1, f_63_2, f_63_3, f_63_4, f_63_5, f_63_6, f_63_7, f_63_8, f_63_9, f_63_10, ag_63, sz_63, by_63, ze_63, pl_63, es_63]; done) | (simp only [List.append_assoc, List.cons_append, List.nil_append, pre_n, pre_c, pre_a, pre_g, pre_r]; done) | (simp only [List.length_set]; done) | (simp only [List.length_set]; omega) | assumption | decide +kernel | fail) only [↓RP, RQ, isConstA, Nat.reduceEqDiff, Nat.reduceLT, Nat.reduceAdd, Int.reduceNeg, Int.reduceLT, Int.reduceLE, Int.reduceToNat, Int.reduceEq, ↓reduceIte, ite_true, ite_false, Option.toList, Nat.reduceMul, Nat.reduceSub, Nat.reduceLeDiff, ne_eq, eq_self, u_0, ag_0, sz_0, by_0, ze_0, es_0, u_3, ag_3, sz_3, by_3, ze_3, es_3, u_4, ag_4, sz_4, by_4, ze_4, bo_4, es_4, u_9, ag_9, sz_9, by_9, ze_9, es_9, u_26, ag_26, sz_26, by_26, ze_26, es_26, u_27, ag_27, sz_27, by_27, ze_27, es_27, u_53, ag_53, sz_53, by_53, ze_53, es_53, u_55, f_55_0, f_55_1, f_55_2, f_55_3, f_55_4, f_55_5, f_55_6, f_55_7, f_55_8, ag_55, sz_55, by_55, ze_55, pl_55, es_55, u_57, ag_57, sz_57, by_57, ze_57, es_57, u_63, f_63_0, f_63_1, f_63_2, f_63_3, f_63_4, f_63_5, f_63_6, f_63_7, f_63_8, f_63_9, f_63_10, ag_63, sz_63, by_63, ze_63, pl_63, es_63, ↓AW_loop, f15, f14, hi2, f1, f7, f0, f2, c1', c3']
            exact ⟨rfl, sb, ids, ag2, ug2⟩
          · have c3' : ¬ (id : Int) ≤ (lastS m m.streams : Nat) := by omega
            by_cases c4 : 512 < head.length
            · have c4' : (512 : Int) < head.length := by omega
              have he : openedE m id head = 3 := by unfold openedE; rw [if_pos (.inr (.inr (.inr c4)))]
              rw [he, if_neg (by decide)]
              simp -dsimp -implicitDefEqProofs (disch := first | omega | (simp only [stT, u_0, ag_0, sz_0, by_0, ze_0, es_0, u_3, ag_3, sz_3, by_3, ze_3, es_3, u_4, ag_4, sz_4, by_4, ze_4, bo_4, es_4, u_9, ag_9, sz_9, by_9, ze_9, es_9, u_26, ag_26, sz_26, by_26, ze_26, es_26, u_27, ag_27, sz_27, by_27, ze_27, es_27, u_53, ag_53, sz_53, by_53, ze_53, es_53, u_55, f_55_0, f_55_1, f_55_2, f_55_3, f_55_4, f_55_5, f_55_6, f_55_7, f_55_8, ag_55, sz_55, by_55, ze_55, pl_55, es_55, u_57, ag_57, sz_57, by_57, ze_57, es_57, u_63, f_63_0, f_63_1, f_63_2, f_63_3, f_63_4, f_63_5, f_63_6, f_63_7, f_63_8, f_63_9, f_63_10, ag_63, sz_63, by_63, ze_63, pl_63, es_63]; done) | (simp only [List.append_assoc, List.cons_append, List.nil_append, pre_n, pre_c, pre_a, pre_g, pre_r]; done) | (simp only [List.length_set]; done) | (simp only [List.length_set]; omega) | assumption | decide +kernel | fail) only [↓RP, RQ, isConstA, Nat.reduceEqDiff, Nat.reduceLT, Nat.reduceAdd, Int.reduceNeg, Int.reduceLT, Int.reduceLE, Int.reduceToNat, Int.reduceEq, ↓reduceIte, ite_true, ite_false, Option.toList, Nat.reduceMul, Nat.reduceSub, Nat.reduceLeDiff, ne_eq, eq_self, u_0, ag_0, sz_0, by_0, ze_0, es_0, u_3, ag_3, sz_3, by_3, ze_3, es_3, u_4, ag_4, sz_4, by_4, ze_4, bo_4, es_4, u_9, ag_9, sz_9, by_9, ze_9, es_9, u_26, ag_26, sz_26, by_26, ze_26, es_26, u_27, ag_27, sz_27, by_27, ze_27, es_27, u_53, ag_53, sz_53, by_53, ze_53, es_53, u_55, f_55_0, f_55_1, f_55_2, f_55_3, f_55_4, f_55_5, f_55_6, f_55_7, f_55_8, ag_55, sz_55, by_55, ze_55, pl_55, es_55, u_57, ag_57, sz_57, by_57, ze_57, es_57, u_63, f_63_0, f_63_1, f_63_2, f_63_3, f_63_4, f_63_5, f_63_6, f_63_7, f_63_8, f_63_9, f_63_10, ag_63, sz_63, by_63, ze_63, pl_63, es_63, ↓AW_loop, f15, f14, hi2, f1, f7, f0, f2, c1', c3', c4']
              exact ⟨rfl, sb, ids, ag2, ug2⟩
            · have c4' : ¬ (512 : Int) < head.length := by omega
              have hnn : ¬ (id = 0 ∨ ownS m id = true ∨ id ≤ lastS m m.streams ∨ 512 < head.length) := by
                rw [c2]; simp [c1, c3, c4]
              simp -dsimp -implicitDefEqProofs (disch := first | omega | (simp only [stT, u_0, ag_0, sz_0, by_0, ze_0, es_0, u_3, ag_3, sz_3, by_3, ze_3, es_3, u_4, ag_4, sz_4, by_4, ze_4, bo_4, es_4, u_9, ag_9, sz_9, by_9, ze_9, es_9, u_26, ag_26, sz_26, by_26, ze_26, es_26, u_27, ag_27, sz_27, by_27, ze_27, es_27, u_53, ag_53, sz_53, by_53, ze_53, es_53, u_55, f_55_0, f_55_1, f_55_2, f_55_3, f_55_4, f_55_5, f_55_6, f_55_7, f_55_8, ag_55, sz_55, by_55, ze_55, pl_55, es_55, u_57, ag_57, sz_57, by_57, ze_57, es_57, u_63, f_63_0, f_63_1, f_63_2, f_63_3, f_63_4, f_63_5, f_63_6, f_63_7, f_63_8, f_63_9, f_63_10, ag_63, sz_63, by_63, ze_63, pl_63, es_63]; done) | (simp only [List.append_assoc, List.cons_append, List.nil_append, pre_n, pre_c, pre_a, pre_g, pre_r]; done) | (simp only [List.length_set]; done) | (simp only [List.length_set]; omega) | assumption | decide +kernel | fail) only [↓RP, RQ, isConstA, Nat.reduceEqDiff, Nat.reduceLT, Nat.reduceAdd, Int.reduceNeg, Int.reduceLT, Int.reduceLE, Int.reduceToNat, Int.reduceEq, ↓reduceIte, ite_true, ite_false, Option.toList, Nat.reduceMul, Nat.reduceSub, Nat.reduceLeDiff, ne_eq, eq_self, u_0, ag_0, sz_0, by_0, ze_0, es_0, u_3, ag_3, sz_3, by_3, ze_3, es_3, u_4, ag_4, sz_4, by_4, ze_4, bo_4, es_4, u_9, ag_9, sz_9, by_9, ze_9, es_9, u_26, ag_26, sz_26, by_26, ze_26, es_26, u_27, ag_27, sz_27, by_27, ze_27, es_27, u_53, ag_53, sz_53, by_53, ze_53, es_53, u_55, f_55_0, f_55_1, f_55_2, f_55_3, f_55_4, f_55_5, f_55_6, f_55_7, f_55_8, ag_55, sz_55, by_55, ze_55, pl_55, es_55, u_57, ag_57, sz_57, by_57, ze_57, es_57, u_63, f_63_0, f_63_1, f_63_2, f_63_3, f_63_4, f_63_5, f_63_6, f_63_7, f_63_8, f_63_9, f_63_10, ag_63, sz_63, by_63, ze_63, pl_63, es_63, ↓AW_loop, f15, f14, hi2, f1, f7, f0, f2, c1', c3', c4']
              refine (count_q m false ag2 hl).use' fun g3 => ?_
              have ag3 := ag2.app g3
              have ug3 := ug2.more g3
              by_cases c5 : countS m false m.streams = 16
              · have c5' : ((countS m false m.streams : Nat) : Int) = 16 := by omega
                have he : openedE m id head = 5 := by unfold openedE; rw [if_neg hnn, if_pos c5]
                rw [he, if_neg (by decide)]
                simp -dsimp -implicitDefEqProofs (disch := first | omega | (simp only [stT, u_0, ag_0, sz_0, by_0, ze_0, es_0, u_3, ag_3, sz_3, by_3, ze_3, es_3, u_4, ag_4, sz_4, by_4, ze_4, bo_4, es_4, u_9, ag_9, sz_9, by_9, ze_9, es_9, u_26, ag_26, sz_26, by_26, ze_26, es_26, u_27, ag_27, sz_27, by_27, ze_27, es_27, u_53, ag_53, sz_53, by_53, ze_53, es_53, u_55, f_55_0, f_55_1, f_55_2, f_55_3, f_55_4, f_55_5, f_55_6, f_55_7, f_55_8, ag_55, sz_55, by_55, ze_55, pl_55, es_55, u_57, ag_57, sz_57, by_57, ze_57, es_57, u_63, f_63_0, f_63_1, f_63_2, f_63_3, f_63_4, f_63_5, f_63_6, f_63_7, f_63_8, f_63_9, f_63_10, ag_63, sz_63, by_63, ze_63, pl_63, es_63]; done) | (simp only [List.append_assoc, List.cons_append, List.nil_append, pre_n, pre_c, pre_a, pre_g, pre_r]; done) | (simp only [List.length_set]; done) | (simp only [List.length_set]; omega) | assumption | decide +kernel | fail) only [↓RP, RQ, isConstA, Nat.reduceEqDiff, Nat.reduceLT, Nat.reduceAdd, Int.reduceNeg, Int.reduceLT, Int.reduceLE, Int.reduceToNat, Int.reduceEq, ↓reduceIte, ite_true, ite_false, Option.toList, Nat.reduceMul, Nat.reduceSub, Nat.reduceLeDiff, ne_eq, eq_self, u_0, ag_0, sz_0, by_0, ze_0, es_0, u_3, ag_3, sz_3, by_3, ze_3, es_3, u_4, ag_4, sz_4, by_4, ze_4, bo_4, es_4, u_9, ag_9, sz_9, by_9, ze_9, es_9, u_26, ag_26, sz_26, by_26, ze_26, es_26, u_27, ag_27, sz_27, by_27, ze_27, es_27, u_53, ag_53, sz_53, by_53, ze_53, es_53, u_55, f_55_0, f_55_1, f_55_2, f_55_3, f_55_4, f_55_5, f_55_6, f_55_7, f_55_8, ag_55, sz_55, by_55, ze_55, pl_55, es_55, u_57, ag_57, sz_57, by_57, ze_57, es_57, u_63, f_63_0, f_63_1, f_63_2, f_63_3, f_63_4, f_63_5, f_63_6, f_63_7, f_63_8, f_63_9, f_63_10, ag_63, sz_63, by_63, ze_63, pl_63, es_63, ↓AW_loop, f15, f14, f1, f7, f0, f2, c5']
                simp only [List.append_assoc] at ag3 ug3
                exact ⟨rfl, sb, ids, ag3, ug3⟩
              · have c5' : ¬ ((countS m false m.streams : Nat) : Int) = 16 := by omega
                have he : openedE m id head = 0 := by unfold openedE; rw [if_neg hnn, if_neg c5]
                have hid2 := hid he
                rw [he, if_pos rfl]
                simp -dsimp -implicitDefEqProofs (disch := first | omega | (simp only [stT, u_0, ag_0, sz_0, by_0, ze_0, es_0, u_3, ag_3, sz_3, by_3, ze_3, es_3, u_4, ag_4, sz_4, by_4, ze_4, bo_4, es_4, u_9, ag_9, sz_9, by_9, ze_9, es_9, u_26, ag_26, sz_26, by_26, ze_26, es_26, u_27, ag_27, sz_27, by_27, ze_27, es_27, u_53, ag_53, sz_53, by_53, ze_53, es_53, u_55, f_55_0, f_55_1, f_55_2, f_55_3, f_55_4, f_55_5, f_55_6, f_55_7, f_55_8, ag_55, sz_55, by_55, ze_55, pl_55, es_55, u_57, ag_57, sz_57, by_57, ze_57, es_57, u_63, f_63_0, f_63_1, f_63_2, f_63_3, f_63_4, f_63_5, f_63_6, f_63_7, f_63_8, f_63_9, f_63_10, ag_63, sz_63, by_63, ze_63, pl_63, es_63]; done) | (simp only [List.append_assoc, List.cons_append, List.nil_append, pre_n, pre_c, pre_a, pre_g, pre_r]; done) | (simp only [List.length_set]; done) | (simp only [List.length_set]; omega) | assumption | decide +kernel | fail) only [↓RP, RQ, isConstA, Nat.reduceEqDiff, Nat.reduceLT, Nat.reduceAdd, Int.reduceNeg, Int.reduceLT, Int.reduceLE, Int.reduceToNat, Int.reduceEq, ↓reduceIte, ite_true, ite_false, Option.toList, Nat.reduceMul, Nat.reduceSub, Nat.reduceLeDiff, ne_eq, eq_self, u_0, ag_0, sz_0, by_0, ze_0, es_0, u_3, ag_3, sz_3, by_3, ze_3, es_3, u_4, ag_4, sz_4, by_4, ze_4, bo_4, es_4, u_9, ag_9, sz_9, by_9, ze_9, es_9, u_26, ag_26, sz_26, by_26, ze_26, es_26, u_27, ag_27, sz_27, by_27, ze_27, es_27, u_53, ag_53, sz_53, by_53, ze_53, es_53, u_55, f_55_0, f_55_1, f_55_2, f_55_3, f_55_4, f_55_5, f_55_6, f_55_7, f_55_8, ag_55, sz_55, by_55, ze_55, pl_55, es_55, u_57, ag_57, sz_57, by_57, ze_57, es_57, u_63, f_63_0, f_63_1, f_63_2, f_63_3, f_63_4, f_63_5, f_63_6, f_63_7, f_63_8, f_63_9, f_63_10, ag_63, sz_63, by_63, ze_63, pl_63, es_63, ↓AW_loop, f15, f14, f1, f7, f0, f2, c5']
                simp only [List.append_assoc] at ag3 ug3
                refine FW.mono (add_q m id head ag3 hl hid2) (fun v h2 hq => ?_)
                obtain ⟨nb, b, rfl, a4, u4⟩ := hq
                simp -dsimp -implicitDefEqProofs (disch := first | omega | (simp only [stT, u_0, ag_0, sz_0, by_0, ze_0, es_0, u_3, ag_3, sz_3, by_3, ze_3, es_3, u_4, ag_4, sz_4, by_4, ze_4, bo_4, es_4, u_9, ag_9, sz_9, by_9, ze_9, es_9, u_26, ag_26, sz_26, by_26, ze_26, es_26, u_27, ag_27, sz_27, by_27, ze_27, es_27, u_53, ag_53, sz_53, by_53, ze_53, es_53, u_55, f_55_0, f_55_1, f_55_2, f_55_3, f_55_4, f_55_5, f_55_6, f_55_7, f_55_8, ag_55, sz_55, by_55, ze_55, pl_55, es_55, u_57, ag_57, sz_57, by_57, ze_57, es_57, u_63, f_63_0, f_63_1, f_63_2, f_63_3, f_63_4, f_63_5, f_63_6, f_63_7, f_63_8, f_63_9, f_63_10, ag_63, sz_63, by_63, ze_63, pl_63, es_63]; done) | (simp only [List.append_assoc, List.cons_append, List.nil_append, pre_n, pre_c, pre_a, pre_g, pre_r]; done) | (simp only [List.length_set]; done) | (simp only [List.length_set]; omega) | assumption | decide +kernel | fail) only [↓RP, RQ, isConstA, Nat.reduceEqDiff, Nat.reduceLT, Nat.reduceAdd, Int.reduceNeg, Int.reduceLT, Int.reduceLE, Int.reduceToNat, Int.reduceEq, ↓reduceIte, ite_true, ite_false, Option.toList, Nat.reduceMul, Nat.reduceSub, Nat.reduceLeDiff, ne_eq, eq_self, u_0, ag_0, sz_0, by_0, ze_0, es_0, u_3, ag_3, sz_3, by_3, ze_3, es_3, u_4, ag_4, sz_4, by_4, ze_4, bo_4, es_4, u_9, ag_9, sz_9, by_9, ze_9, es_9, u_26, ag_26, sz_26, by_26, ze_26, es_26, u_27, ag_27, sz_27, by_27, ze_27, es_27, u_53, ag_53, sz_53, by_53, ze_53, es_53, u_55, f_55_0, f_55_1, f_55_2, f_55_3, f_55_4, f_55_5, f_55_6, f_55_7, f_55_8, ag_55, sz_55, by_55, ze_55, pl_55, es_55, u_57, ag_57, sz_57, by_57, ze_57, es_57, u_63, f_63_0, f_63_1, f_63_2, f_63_3, f_63_4, f_63_5, f_63_6, f_63_7, f_63_8, f_63_9, f_63_10, ag_63, sz_63, by_63, ze_63, pl_63, es_63, ↓AW_loop]
                exact ⟨some nb, ids ++ [b], a4, ug3.trans u4⟩
  · simp -dsimp -implicitDefEqProofs (disch := first | omega | (simp only [stT, u_0, ag_0, sz_0, by_0, ze_0, es_0, u_3, ag_3, sz_3, by_3, ze_3, es_3, u_4, ag_4, sz_4, by_4, ze_4, bo_4, es_4, u_9, ag_9, sz_9, by_9, ze_9, es_9, u_26, ag_26, sz_26, by_26, ze_26, es_26, u_27, ag_27, sz_27, by_27, ze_27, es_27, u_53, ag_53, sz_53, by_53, ze_53, es_53, u_55, f_55_0, f_55_1, f_55_2, f_55_3, f_55_4, f_55_5, f_55_6, f_55_7, f_55_8, ag_55, sz_55, by_55, ze_55, pl_55, es_55, u_57, ag_57, sz_57, by_57, ze_57, es_57, u_63, f_63_0, f_63_1, f_63_2, f_63_3, f_63_4, f_63_5, f_63_6, f_63_7, f_63_8, f_63_9, f_63_10, ag_63, sz_63, by_63, ze_63, pl_63, es_63]; done) | (simp only [List.append_assoc, List.cons_append, List.nil_append, pre_n, pre_c, pre_a, pre_g, pre_r]; done) | (simp only [List.length_set]; done) | (simp only [List.length_set]; omega) | assumption | decide +kernel | fail) only [↓RP, RQ, isConstA, Nat.reduceEqDiff, Nat.reduceLT, Nat.reduceAdd, Int.reduceNeg, Int.reduceLT, Int.reduceLE, Int.reduceToNat, Int.reduceEq, ↓reduceIte, ite_true, ite_false, Option.toList, Nat.reduceMul, Nat.reduceSub, Nat.reduceLeDiff, ne_eq, eq_self, u_0, ag_0, sz_0, by_0, ze_0, es_0, u_3, ag_3, sz_3, by_3, ze_3, es_3, u_4, ag_4, sz_4, by_4, ze_4, bo_4, es_4, u_9, ag_9, sz_9, by_9, ze_9, es_9, u_26, ag_26, sz_26, by_26, ze_26, es_26, u_27, ag_27, sz_27, by_27, ze_27, es_27, u_53, ag_53, sz_53, by_53, ze_53, es_53, u_55, f_55_0, f_55_1, f_55_2, f_55_3, f_55_4, f_55_5, f_55_6, f_55_7, f_55_8, ag_55, sz_55, by_55, ze_55, pl_55, es_55, u_57, ag_57, sz_57, by_57, ze_57, es_57, u_63, f_63_0, f_63_1, f_63_2, f_63_3, f_63_4, f_63_5, f_63_6, f_63_7, f_63_8, f_63_9, f_63_10, ag_63, sz_63, by_63, ze_63, pl_63, es_63, ↓AW_loop] <;> (and_intros <;> first | rfl | simp)
end Go.Abs
/- Mx10: the walk of a received frame. Conditions: none. -/
set_option maxRecDepth 100000
set_option linter.unusedSimpArgs false
set_option linter.unusedVariables false
namespace Go.Abs
open Go.Proofs
def two (b : List UInt8) : Nat := ((b[0]?).getD 0).toNat * 256 + ((b[1]?).getD 0).toNat
def bodyE (m : MuxS) (s : Strm) (kind : Nat) (body : List UInt8) : Nat :=
  if (kind = 1 ∨ kind = 3) ∧ s.over = true then 16
  else if (kind = 1 ∧ (body = [] ∨ 64 < body.length)) ∨ (kind = 5 ∧ body.length ≠ 2) ∨ ((kind = 3 ∨ kind = 4) ∧ body ≠ []) then 3
  else if kind = 1 ∧ s.room < body.length then 10
  else if kind = 5 ∧ (two body = 0 ∨ m.window < s.window + two body) then 10 else 0
def bodyS (s : Strm) (kind : Nat) (body : List UInt8) : Strm :=
  if kind = 1 then { s with room := s.room - body.length, inn := if s.reset = true then s.inn else s.inn ++ body }
  else if kind = 3 then { s with over := true }
  else if kind = 4 then { s with reset := true, out := [], inn := [] }
  else { s with window := s.window + two body }
def gotE (m : MuxS) (kind id : Nat) (body : List UInt8) : Nat :=
  if kind = 2 then openedE m id body else if kind < 1 ∨ 5 < kind then 1 else if findS m id < 0 then 4 else match m.streams[(findS m id).toNat]? with
    | none => 4
    | some s => bodyE m s kind body
def gotM (m : MuxS) (kind id : Nat) (body : List UInt8) : MuxS :=
  if kind = 2 then openedM m id body else if gotE m kind id body ≠ 0 then m else match m.streams[(findS m id).toNat]? with
    | none => m
    | some s => { m with streams := m.streams.set (findS m id).toNat (bodyS s kind body) }
theorem got1_q (m : MuxS) (kind id : Nat) (body : List UInt8) (i : Nat) (s : Strm) {h : AHeap} {p : Nat} {sb : Option Nat} {ids : List Nat} (a : MuxAt h p sb ids m) (hl : ids.length < 2 ^ 40) (hh : body.length < 2 ^ 40)
    (hm : m.window < 2 ^ 40) (hs : ∀ s, s ∈ m.streams → s.window < 2 ^ 40 ∧ s.room < 2 ^ 40 ∧ s.inn.length < 2 ^ 40) (c1 : kind = 1) (e : findS m id = (i : Int)) (hsi : m.streams[i]? = some s) :
    FW cx 31 [ptrC p, .int .i64 kind, .int .i64 id, .string (str body)] h fun v h' => v = .int .i64 (bodyE m s kind body : Nat) ∧ ∃ sb' ids', MuxAt h' p sb' ids' (if bodyE m s kind body ≠ 0 then m else { m with streams := m.streams.set i (bodyS s kind body) }) ∧ Upd h h' (foot p sb ids) (foot p sb' ids') := by
  refine FW_f Try.func31 rfl (by decide +kernel) ?_
  have k2' : ¬ (kind : Int) = 2 := by omega
  simp -dsimp -implicitDefEqProofs (disch := first | omega | (simp only [stT, u_1, ag_1, sz_1, by_1, ze_1, es_1, u_2, ag_2, sz_2, by_2, ze_2, es_2, u_3, ag_3, sz_3, by_3, ze_3, es_3, u_4, ag_4, sz_4, by_4, ze_4, bo_4, es_4, u_5, ag_5, sz_5, by_5, ze_5, u8_5, es_5, u_9, ag_9, sz_9, by_9, ze_9, es_9, u_10, ag_10, sz_10, by_10, ze_10, es_10, u_26, ag_26, sz_26, by_26, ze_26, es_26, u_27, ag_27, sz_27, by_27, ze_27, es_27, u_53, ag_53, sz_53, by_53, ze_53, es_53, u_55, f_55_0, f_55_1, f_55_2, f_55_3, f_55_4, f_55_5, f_55_6, f_55_7, f_55_8, ag_55, sz_55, by_55, ze_55, pl_55, es_55, u_57, ag_57, sz_57, by_57, ze_57, es_57, u_63, f_63_0, f_63_1, f_63_2, f_63_3, f_63_4, f_63_5, f_63_6, f_63_7, f_63_8, f_63_9, f_63_10, ag_63, sz_63, by_63, ze_63, pl_63, es_63, u_64, ag_64, sz_64, by_64, ze_64, es_64]; done) | (simp only [List.append_assoc, List.cons_append, List.nil_append, pre_n, pre_c, pre_a, pre_g, pre_r]; done) | (simp only [List.length_set]; done) | (simp only [List.length_set]; omega) | assumption | decide +kernel | fail) only [↓RP, RQ, isConstA, Nat.reduceEqDiff, Nat.reduceLT, Nat.reduceAdd, Int.reduceNeg, Int.reduceLT, Int.reduceLE, Int.reduceToNat, Int.reduceEq, ↓reduceIte, ite_true, ite_false, Option.toList, Nat.reduceMul, Nat.reduceSub, Nat.reduceLeDiff, ne_eq, eq_self, u_1, ag_1, sz_1, by_1, ze_1, es_1, u_2, ag_2, sz_2, by_2, ze_2, es_2, u_3, ag_3, sz_3, by_3, ze_3, es_3, u_4, ag_4, sz_4, by_4, ze_4, bo_4, es_4, u_5, ag_5, sz_5, by_5, ze_5, u8_5, es_5, u_9, ag_9, sz_9, by_9, ze_9, es_9, u_10, ag_10, sz_10, by_10, ze_10, es_10, u_26, ag_26, sz_26, by_26, ze_26, es_26, u_27, ag_27, sz_27, by_27, ze_27, es_27, u_53, ag_53, sz_53, by_53, ze_53, es_53, u_55, f_55_0, f_55_1, f_55_2, f_55_3, f_55_4, f_55_5, f_55_6, f_55_7, f_55_8, ag_55, sz_55, by_55, ze_55, pl_55, es_55, u_57, ag_57, sz_57, by_57, ze_57, es_57, u_63, f_63_0, f_63_1, f_63_2, f_63_3, f_63_4, f_63_5, f_63_6, f_63_7, f_63_8, f_63_9, f_63_10, ag_63, sz_63, by_63, ze_63, pl_63, es_63, u_64, ag_64, sz_64, by_64, ze_64, es_64, ↓AW_loop, k2']
  refine (find_q m id a hl).use' fun g => ?_
  have ag := a.app g
  have ug := Upd.app h g (foot p sb ids)
  obtain ⟨b, hib, hbb⟩ := a.idb hsi
  have hbX := fun X => blkA_app X hbb
  have htX := fun X => blkA_app X a.top
  have hbl := blkA_lt hbb
  have hmem := List.mem_of_getElem? hib
  have hsb := hs s (List.mem_of_getElem? hsi)
  rw [e, findV_at hib]
  have c1' : (kind : Int) = 1 := by omega
  cases hov : s.over with
  | true =>
    have hbe : bodyE m s kind body = 16 := by unfold bodyE; rw [if_pos ⟨.inl c1, hov⟩]
    rw [hbe, if_pos (by decide)]
    simp -dsimp -implicitDefEqProofs (disch := first | omega | (simp only [stT, u_1, ag_1, sz_1, by_1, ze_1, es_1, u_2, ag_2, sz_2, by_2, ze_2, es_2, u_3, ag_3, sz_3, by_3, ze_3, es_3, u_4, ag_4, sz_4, by_4, ze_4, bo_4, es_4, u_5, ag_5, sz_5, by_5, ze_5, u8_5, es_5, u_9, ag_9, sz_9, by_9, ze_9, es_9, u_10, ag_10, sz_10, by_10, ze_10, es_10, u_26, ag_26, sz_26, by_26, ze_26, es_26, u_27, ag_27, sz_27, by_27, ze_27, es_27, u_53, ag_53, sz_53, by_53, ze_53, es_53, u_55, f_55_0, f_55_1, f_55_2, f_55_3, f_55_4, f_55_5, f_55_6, f_55_7, f_55_8, ag_55, sz_55, by_55, ze_55, pl_55, es_55, u_57, ag_57, sz_57, by_57, ze_57, es_57, u_63, f_63_0, f_63_1, f_63_2, f_63_3, f_63_4, f_63_5, f_63_6, f_63_7, f_63_8, f_63_9, f_63_10, ag_63, sz_63, by_63, ze_63, pl_63, es_63, u_64, ag_64, sz_64, by_64, ze_64, es_64]; done) | (simp only [List.append_assoc, List.cons_append, List.nil_append, pre_n, pre_c, pre_a, pre_g, pre_r]; done) | (simp only [List.length_set]; done) | (simp only [List.length_set]; omega) | assumption | decide +kernel | fail) only [↓RP, RQ, isConstA, Nat.reduceEqDiff, Nat.reduceLT, Nat.reduceAdd, Int.reduceNeg, Int.reduceLT, Int.reduceLE, Int.reduceToNat, Int.reduceEq, ↓reduceIte, ite_true, ite_false, Option.toList, Nat.reduceMul, Nat.reduceSub, Nat.reduceLeDiff, ne_eq, eq_self, u_1, ag_1, sz_1, by_1, ze_1, es_1, u_2, ag_2, sz_2, by_2, ze_2, es_2, u_3, ag_3, sz_3, by_3, ze_3, es_3, u_4, ag_4, sz_4, by_4, ze_4, bo_4, es_4, u_5, ag_5, sz_5, by_5, ze_5, u8_5, es_5, u_9, ag_9, sz_9, by_9, ze_9, es_9, u_10, ag_10, sz_10, by_10, ze_10, es_10, u_26, ag_26, sz_26, by_26, ze_26, es_26, u_27, ag_27, sz_27, by_27, ze_27, es_27, u_53, ag_53, sz_53, by_53, ze_53, es_53, u_55, f_55_0, f_55_1, f_55_2, f_55_3, f_55_4, f_55_5, f_55_6, f_55_7, f_55_8, ag_55, sz_55, by_55, ze_55, pl_55, es_55, u_57, ag_57, sz_57, by_57, ze_57, es_57, u_63, f_63_0, f_63_1, f_63_2, f_63_3, f_63_4, f_63_5, f_63_6, f_63_7, f_63_8, f_63_9, f_63_10, ag_63, sz_63, by_63, ze_63, pl_63, es_63, u_64, ag_64, sz_64, by_64, ze_64, es_64, ↓AW_loop, hbX, htX, muxC, strmC, ptrC, c1', hov]
    first | exact ⟨rfl, sb, ids, ag, ug⟩ | exact ⟨sb, ids, ag, ug⟩
  | false =>
    have hn1 : ¬ ((kind = 1 ∨ kind = 3) ∧ s.over = true) := by rw [hov]; simp
    by_cases d1 : body = []
    · skip
      have hbe : bodyE m s kind body = 3 := by unfold bodyE; rw [if_neg hn1, if_pos (.inl ⟨c1, .inl d1⟩)]
      rw [hbe, if_pos (by decide)]
      simp -dsimp -implicitDefEqProofs (disch := first | omega | (simp only [stT, u_1, ag_1, sz_1, by_1, ze_1, es_1, u_2, ag_2, sz_2, by_2, ze_2, es_2, u_3, ag_3, sz_3, by_3, ze_3, es_3, u_4, ag_4, sz_4, by_4, ze_4, bo_4, es_4, u_5, ag_5, sz_5, by_5, ze_5, u8_5, es_5, u_9, ag_9, sz_9, by_9, ze_9, es_9, u_10, ag_10, sz_10, by_10, ze_10, es_10, u_26, ag_26, sz_26, by_26, ze_26, es_26, u_27, ag_27, sz_27, by_27, ze_27, es_27, u_53, ag_53, sz_53, by_53, ze_53, es_53, u_55, f_55_0, f_55_1, f_55_2, f_55_3, f_55_4, f_55_5, f_55_6, f_55_7, f_55_8, ag_55, sz_55, by_55, ze_55, pl_55, es_55, u_57, ag_57, sz_57, by_57, ze_57, es_57, u_63, f_63_0, f_63_1, f_63_2, f_63_3, f_63_4, f_63_5, f_63_6, f_63_7, f_63_8, f_63_9, f_63_10, ag_63, sz_63, by_63, ze_63, pl_63, es_63, u_64, ag_64, sz_64, by_64, ze_64, es_64]; done) | (simp only [List.append_assoc, List.cons_append, List.nil_append, pre_n, pre_c, pre_a, pre_g, pre_r]; done) | (simp only [List.length_set]; done) | (simp only [List.length_set]; omega) | assumption | decide +kernel | fail) only [↓RP, RQ, isConstA, Nat.reduceEqDiff, Nat.reduceLT, Nat.reduceAdd, Int.reduceNeg, Int.reduceLT, Int.reduceLE, Int.reduceToNat, Int.reduceEq, ↓reduceIte, ite_true, ite_false, Option.toList, Nat.reduceMul, Nat.reduceSub, Nat.reduceLeDiff, ne_eq, eq_self, u_1, ag_1, sz_1, by_1, ze_1, es_1, u_2, ag_2, sz_2, by_2, ze_2, es_2, u_3, ag_3, sz_3, by_3, ze_3, es_3, u_4, ag_4, sz_4, by_4, ze_4, bo_4, es_4, u_5, ag_5, sz_5, by_5, ze_5, u8_5, es_5, u_9, ag_9, sz_9, by_9, ze_9, es_9, u_10, ag_10, sz_10, by_10, ze_10, es_10, u_26, ag_26, sz_26, by_26, ze_26, es_26, u_27, ag_27, sz_27, by_27, ze_27, es_27, u_53, ag_53, sz_53, by_53, ze_53, es_53, u_55, f_55_0, f_55_1, f_55_2, f_55_3, f_55_4, f_55_5, f_55_6, f_55_7, f_55_8, ag_55, sz_55, by_55, ze_55, pl_55, es_55, u_57, ag_57, sz_57, by_57, ze_57, es_57, u_63, f_63_0, f_63_1, f_63_2, f_63_3, f_63_4, f_63_5, f_63_6, f_63_7, f_63_8, f_63_9, f_63_10, ag_63, sz_63, by_63, ze_63, pl_63, es_63, u_64, ag_64, sz_64, by_64, ze_64, es_64, ↓AW_loop, hbX, htX, muxC, strmC, ptrC, c1', hov, d1]
      first | exact ⟨rfl, sb, ids, ag, ug⟩ | exact ⟨sb, ids, ag, ug⟩
    · by_cases d2 : 64 < body.length
      · have d2' : (64 : Int) < body.length := by omega
        have hbe : bodyE m s kind body = 3 := by unfold bodyE; rw [if_neg hn1, if_pos (.inl ⟨c1, .inr d2⟩)]
        rw [hbe, if_pos (by decide)]
        simp -dsimp -implicitDefEqProofs (disch := first | omega | (simp only [stT, u_1, ag_1, sz_1, by_1, ze_1, es_1, u_2, ag_2, sz_2, by_2, ze_2, es_2, u_3, ag_3, sz_3, by_3, ze_3, es_3, u_4, ag_4, sz_4, by_4, ze_4, bo_4, es_4, u_5, ag_5, sz_5, by_5, ze_5, u8_5, es_5, u_9, ag_9, sz_9, by_9, ze_9, es_9, u_10, ag_10, sz_10, by_10, ze_10, es_10, u_26, ag_26, sz_26, by_26, ze_26, es_26, u_27, ag_27, sz_27, by_27, ze_27, es_27, u_53, ag_53, sz_53, by_53, ze_53, es_53, u_55, f_55_0, f_55_1, f_55_2, f_55_3, f_55_4, f_55_5, f_55_6, f_55_7, f_55_8, ag_55, sz_55, by_55, ze_55, pl_55, es_55, u_57, ag_57, sz_57, by_57, ze_57, es_57, u_63, f_63_0, f_63_1, f_63_2, f_63_3, f_63_4, f_63_5, f_63_6, f_63_7, f_63_8, f_63_9, f_63_10, ag_63, sz_63, by_63, ze_63, pl_63, es_63, u_64, ag_64, sz_64, by_64, ze_64, es_64]; done) | (simp only [List.append_assoc, List.cons_append, List.nil_append, pre_n, pre_c, pre_a, pre_g, pre_r]; done) | (simp only [List.length_set]; done) | (simp only [List.length_set]; omega) | assumption | decide +kernel | fail) only [↓RP, RQ, isConstA, Nat.reduceEqDiff, Nat.reduceLT, Nat.reduceAdd, Int.reduceNeg, Int.reduceLT, Int.reduceLE, Int.reduceToNat, Int.reduceEq, ↓reduceIte, ite_true, ite_false, Option.toList, Nat.reduceMul, Nat.reduceSub, Nat.reduceLeDiff, ne_eq, eq_self, u_1, ag_1, sz_1, by_1, ze_1, es_1, u_2, ag_2, sz_2, by_2, ze_2, es_2, u_3, ag_3, sz_3, by_3, ze_3, es_3, u_4, ag_4, sz_4, by_4, ze_4, bo_4, es_4, u_5, ag_5, sz_5, by_5, ze_5, u8_5, es_5, u_9, ag_9, sz_9, by_9, ze_9, es_9, u_10, ag_10, sz_10, by_10, ze_10, es_10, u_26, ag_26, sz_26, by_26, ze_26, es_26, u_27, ag_27, sz_27, by_27, ze_27, es_27, u_53, ag_53, sz_53, by_53, ze_53, es_53, u_55, f_55_0, f_55_1, f_55_2, f_55_3, f_55_4, f_55_5, f_55_6, f_55_7, f_55_8, ag_55, sz_55, by_55, ze_55, pl_55, es_55, u_57, ag_57, sz_57, by_57, ze_57, es_57, u_63, f_63_0, f_63_1, f_63_2, f_63_3, f_63_4, f_63_5, f_63_6, f_63_7, f_63_8, f_63_9, f_63_10, ag_63, sz_63, by_63, ze_63, pl_63, es_63, u_64, ag_64, sz_64, by_64, ze_64, es_64, ↓AW_loop, hbX, htX, muxC, strmC, ptrC, c1', hov, d1, d2']
        first | exact ⟨rfl, sb, ids, ag, ug⟩ | exact ⟨sb, ids, ag, ug⟩
      · have d2' : ¬ (64 : Int) < body.length := by omega
        have hn2 : ¬ ((kind = 1 ∧ (body = [] ∨ 64 < body.length)) ∨ (kind = 5 ∧ body.length ≠ 2) ∨ ((kind = 3 ∨ kind = 4) ∧ body ≠ [])) := by simp [c1, d1, d2]
        by_cases d3 : s.room < body.length
        · have d3' : (s.room : Int) < body.length := by omega
          have hbe : bodyE m s kind body = 10 := by unfold bodyE; rw [if_neg hn1, if_neg hn2, if_pos ⟨c1, d3⟩]
          rw [hbe, if_pos (by decide)]
          simp -dsimp -implicitDefEqProofs (disch := first | omega | (simp only [stT, u_1, ag_1, sz_1, by_1, ze_1, es_1, u_2, ag_2, sz_2, by_2, ze_2, es_2, u_3, ag_3, sz_3, by_3, ze_3, es_3, u_4, ag_4, sz_4, by_4, ze_4, bo_4, es_4, u_5, ag_5, sz_5, by_5, ze_5, u8_5, es_5, u_9, ag_9, sz_9, by_9, ze_9, es_9, u_10, ag_10, sz_10, by_10, ze_10, es_10, u_26, ag_26, sz_26, by_26, ze_26, es_26, u_27, ag_27, sz_27, by_27, ze_27, es_27, u_53, ag_53, sz_53, by_53, ze_53, es_53, u_55, f_55_0, f_55_1, f_55_2, f_55_3, f_55_4, f_55_5, f_55_6, f_55_7, f_55_8, ag_55, sz_55, by_55, ze_55, pl_55, es_55, u_57, ag_57, sz_57, by_57, ze_57, es_57, u_63, f_63_0, f_63_1, f_63_2, f_63_3, f_63_4, f_63_5, f_63_6, f_63_7, f_63_8, f_63_9, f_63_10, ag_63, sz_63, by_63, ze_63, pl_63, es_63, u_64, ag_64, sz_64, by_64, ze_64, es_64]; done) | (simp only [List.append_assoc, List.cons_append, List.nil_append, pre_n, pre_c, pre_a, pre_g, pre_r]; done) | (simp only [List.length_set]; done) | (simp only [List.length_set]; omega) | assumption | decide +kernel | fail) only [↓RP, RQ, isConstA, Nat.reduceEqDiff, Nat.reduceLT, Nat.reduceAdd, Int.reduceNeg, Int.reduceLT, Int.reduceLE, Int.reduceToNat, Int.reduceEq, ↓reduceIte, ite_true, ite_false, Option.toList, Nat.reduceMul, Nat.reduceSub, Nat.reduceLeDiff, ne_eq, eq_self, u_1, ag_1, sz_1, by_1, ze_1, es_1, u_2, ag_2, sz_2, by_2, ze_2, es_2, u_3, ag_3, sz_3, by_3, ze_3, es_3, u_4, ag_4, sz_4, by_4, ze_4, bo_4, es_4, u_5, ag_5, sz_5, by_5, ze_5, u8_5, es_5, u_9, ag_9, sz_9, by_9, ze_9, es_9, u_10, ag_10, sz_10, by_10, ze_10, es_10, u_26, ag_26, sz_26, by_26, ze_26, es_26, u_27, ag_27, sz_27, by_27, ze_27, es_27, u_53, ag_53, sz_53, by_53, ze_53, es_53, u_55, f_55_0, f_55_1, f_55_2, f_55_3, f_55_4, f_55_5, f_55_6, f_55_7, f_55_8, ag_55, sz_55, by_55, ze_55, pl_55, es_55, u_57, ag_57, sz_57, by_57, ze_57, es_57, u_63, f_63_0, f_63_1, f_63_2, f_63_3, f_63_4, f_63_5, f_63_6, f_63_7, f_63_8, f_63_9, f_63_10, ag_63, sz_63, by_63, ze_63, pl_63, es_63, u_64, ag_64, sz_64, by_64, ze_64, es_64, ↓AW_loop, hbX, htX, muxC, strmC, ptrC, c1', hov, d1, d2', d3']
          first | exact ⟨rfl, sb, ids, ag, ug⟩ | exact ⟨sb, ids, ag, ug⟩
        · have d3' : ¬ (s.room : Int) < body.length := by omega
          have hbe : bodyE m s kind body = 0 := by unfold bodyE; rw [if_neg hn1, if_neg hn2, if_neg (fun h => d3 h.2), if_neg (by omega)]
          have hsub : (s.room : Int) - (body.length : Int) = ((s.room - body.length : Nat) : Int) := by omega
          rw [hbe, if_neg (by decide), bodyS, if_pos c1]
          cases hre : s.reset with
          | true =>
            simp -dsimp -implicitDefEqProofs (disch := first | omega | (simp only [stT, u_1, ag_1, sz_1, by_1, ze_1, es_1, u_2, ag_2, sz_2, by_2, ze_2, es_2, u_3, ag_3, sz_3, by_3, ze_3, es_3, u_4, ag_4, sz_4, by_4, ze_4, bo_4, es_4, u_5, ag_5, sz_5, by_5, ze_5, u8_5, es_5, u_9, ag_9, sz_9, by_9, ze_9, es_9, u_10, ag_10, sz_10, by_10, ze_10, es_10, u_26, ag_26, sz_26, by_26, ze_26, es_26, u_27, ag_27, sz_27, by_27, ze_27, es_27, u_53, ag_53, sz_53, by_53, ze_53, es_53, u_55, f_55_0, f_55_1, f_55_2, f_55_3, f_55_4, f_55_5, f_55_6, f_55_7, f_55_8, ag_55, sz_55, by_55, ze_55, pl_55, es_55, u_57, ag_57, sz_57, by_57, ze_57, es_57, u_63, f_63_0, f_63_1, f_63_2, f_63_3, f_63_4, f_63_5, f_63_6, f_63_7, f_63_8, f_63_9, f_63_10, ag_63, sz_63, by_63, ze_63, pl_63, es_63, u_64, ag_64, sz_64, by_64, ze_64, es_64]; done) | (simp only [List.append_assoc, List.cons_append, List.nil_append, pre_n, pre_c, pre_a, pre_g, pre_r]; done) | (simp only [List.length_set]; done) | (simp only [List.length_set]; omega) | assumption | decide +kernel | fail) only [↓RP, RQ, isConstA, Nat.reduceEqDiff, Nat.reduceLT, Nat.reduceAdd, Int.reduceNeg, Int.reduceLT, Int.reduceLE, Int.reduceToNat, Int.reduceEq, ↓reduceIte, ite_true, ite_false, Option.toList, Nat.reduceMul, Nat.reduceSub, Nat.reduceLeDiff, ne_eq, eq_self, u_1, ag_1, sz_1, by_1, ze_1, es_1, u_2, ag_2, sz_2, by_2, ze_2, es_2, u_3, ag_3, sz_3, by_3, ze_3, es_3, u_4, ag_4, sz_4, by_4, ze_4, bo_4, es_4, u_5, ag_5, sz_5, by_5, ze_5, u8_5, es_5, u_9, ag_9, sz_9, by_9, ze_9, es_9, u_10, ag_10, sz_10, by_10, ze_10, es_10, u_26, ag_26, sz_26, by_26, ze_26, es_26, u_27, ag_27, sz_27, by_27, ze_27, es_27, u_53, ag_53, sz_53, by_53, ze_53, es_53, u_55, f_55_0, f_55_1, f_55_2, f_55_3, f_55_4, f_55_5, f_55_6, f_55_7, f_55_8, ag_55, sz_55, by_55, ze_55, pl_55, es_55, u_57, ag_57, sz_57, by_57, ze_57, es_57, u_63, f_63_0, f_63_1, f_63_2, f_63_3, f_63_4, f_63_5, f_63_6, f_63_7, f_63_8, f_63_9, f_63_10, ag_63, sz_63, by_63, ze_63, pl_63, es_63, u_64, ag_64, sz_64, by_64, ze_64, es_64, ↓AW_loop, hbX, htX, muxC, strmC, ptrC, c1', hov, d1, d2', d3', hsub, hre]
            have a2 := (a.setStr hib { s with room := s.room - body.length, inn := if s.reset = true then s.inn else s.inn ++ body }).app g
            simp only [strmC, hov, hre, if_true] at a2
            exact ⟨sb, ids, a2, ((Upd.refl h (foot p sb ids)).set (by simp [foot, hmem])).more g⟩
          | false =>
            simp -dsimp -implicitDefEqProofs (disch := first | omega | (simp only [stT, u_1, ag_1, sz_1, by_1, ze_1, es_1, u_2, ag_2, sz_2, by_2, ze_2, es_2, u_3, ag_3, sz_3, by_3, ze_3, es_3, u_4, ag_4, sz_4, by_4, ze_4, bo_4, es_4, u_5, ag_5, sz_5, by_5, ze_5, u8_5, es_5, u_9, ag_9, sz_9, by_9, ze_9, es_9, u_10, ag_10, sz_10, by_10, ze_10, es_10, u_26, ag_26, sz_26, by_26, ze_26, es_26, u_27, ag_27, sz_27, by_27, ze_27, es_27, u_53, ag_53, sz_53, by_53, ze_53, es_53, u_55, f_55_0, f_55_1, f_55_2, f_55_3, f_55_4, f_55_5, f_55_6, f_55_7, f_55_8, ag_55, sz_55, by_55, ze_55, pl_55, es_55, u_57, ag_57, sz_57, by_57, ze_57, es_57, u_63, f_63_0, f_63_1, f_63_2, f_63_3, f_63_4, f_63_5, f_63_6, f_63_7, f_63_8, f_63_9, f_63_10, ag_63, sz_63, by_63, ze_63, pl_63, es_63, u_64, ag_64, sz_64, by_64, ze_64, es_64]; done) | (simp only [List.append_assoc, List.cons_append, List.nil_append, pre_n, pre_c, pre_a, pre_g, pre_r]; done) | (simp only [List.length_set]; done) | (simp only [List.length_set]; omega) | assumption | decide +kernel | fail) only [↓RP, RQ, isConstA, Nat.reduceEqDiff, Nat.reduceLT, Nat.reduceAdd, Int.reduceNeg, Int.reduceLT, Int.reduceLE, Int.reduceToNat, Int.reduceEq, ↓reduceIte, ite_true, ite_false, Option.toList, Nat.reduceMul, Nat.reduceSub, Nat.reduceLeDiff, ne_eq, eq_self, u_1, ag_1, sz_1, by_1, ze_1, es_1, u_2, ag_2, sz_2, by_2, ze_2, es_2, u_3, ag_3, sz_3, by_3, ze_3, es_3, u_4, ag_4, sz_4, by_4, ze_4, bo_4, es_4, u_5, ag_5, sz_5, by_5, ze_5, u8_5, es_5, u_9, ag_9, sz_9, by_9, ze_9, es_9, u_10, ag_10, sz_10, by_10, ze_10, es_10, u_26, ag_26, sz_26, by_26, ze_26, es_26, u_27, ag_27, sz_27, by_27, ze_27, es_27, u_53, ag_53, sz_53, by_53, ze_53, es_53, u_55, f_55_0, f_55_1, f_55_2, f_55_3, f_55_4, f_55_5, f_55_6, f_55_7, f_55_8, ag_55, sz_55, by_55, ze_55, pl_55, es_55, u_57, ag_57, sz_57, by_57, ze_57, es_57, u_63, f_63_0, f_63_1, f_63_2, f_63_3, f_63_4, f_63_5, f_63_6, f_63_7, f_63_8, f_63_9, f_63_10, ag_63, sz_63, by_63, ze_63, pl_63, es_63, u_64, ag_64, sz_64, by_64, ze_64, es_64, ↓AW_loop, hbX, htX, muxC, strmC, ptrC, c1', hov, d1, d2', d3', hsub, hre]
            refine ⟨by omega, ?_⟩
            have a2 := (a.setStr hib { s with room := s.room - body.length, inn := if s.reset = true then s.inn else s.inn ++ body }).app g
            simp only [strmC, hov, hre, Bool.false_eq_true, if_false] at a2
            exact ⟨sb, ids, a2, ((Upd.refl h (foot p sb ids)).set (by simp [foot, hmem])).more g⟩
theorem got3_q (m : MuxS) (kind id : Nat) (body : List UInt8) (i : Nat) (s : Strm) {h : AHeap} {p : Nat} {sb : Option Nat} {ids : List Nat} (a : MuxAt h p sb ids m) (hl : ids.length < 2 ^ 40) (hh : body.length < 2 ^ 40)
    (hm : m.window < 2 ^ 40) (hs : ∀ s, s ∈ m.streams → s.window < 2 ^ 40 ∧ s.room < 2 ^ 40 ∧ s.inn.length < 2 ^ 40) (c3 : kind = 3) (e : findS m id = (i : Int)) (hsi : m.streams[i]? = some s) :
    FW cx 31 [ptrC p, .int .i64 kind, .int .i64 id, .string (str body)] h fun v h' => v = .int .i64 (bodyE m s kind body : Nat) ∧ ∃ sb' ids', MuxAt h' p sb' ids' (if bodyE m s kind body ≠ 0 then m else { m with streams := m.streams.set i (bodyS s kind body) }) ∧ Upd h h' (foot p sb ids) (foot p sb' ids') := by
  refine FW_f Try.func31 rfl (by decide +kernel) ?_
  have c1 : ¬ kind = 1 := by omega
  have k2' : ¬ (kind : Int) = 2 := by omega
  simp -dsimp -implicitDefEqProofs (disch := first | omega | (simp only [stT, u_1, ag_1, sz_1, by_1, ze_1, es_1, u_2, ag_2, sz_2, by_2, ze_2, es_2, u_3, ag_3, sz_3, by_3, ze_3, es_3, u_4, ag_4, sz_4, by_4, ze_4, bo_4, es_4, u_5, ag_5, sz_5, by_5, ze_5, u8_5, es_5, u_9, ag_9, sz_9, by_9, ze_9, es_9, u_10, ag_10, sz_10, by_10, ze_10, es_10, u_26, ag_26, sz_26, by_26, ze_26, es_26, u_27, ag_27, sz_27, by_27, ze_27, es_27, u_53, ag_53, sz_53, by_53, ze_53, es_53, u_55, f_55_0, f_55_1, f_55_2, f_55_3, f_55_4, f_55_5, f_55_6, f_55_7, f_55_8, ag_55, sz_55, by_55, ze_55, pl_55, es_55, u_57, ag_57, sz_57, by_57, ze_57, es_57, u_63, f_63_0, f_63_1, f_63_2, f_63_3, f_63_4, f_63_5, f_63_6, f_63_7, f_63_8, f_63_9, f_63_10, ag_63, sz_63, by_63, ze_63, pl_63, es_63, u_64, ag_64, sz_64, by_64, ze_64, es_64]; done) | (simp only [List.append_assoc, List.cons_append, List.nil_append, pre_n, pre_c, pre_a, pre_g, pre_r]; done) | (simp only [List.length_set]; done) | (simp only [List.length_set]; omega) | assumption | decide +kernel | fail) only [↓RP, RQ, isConstA, Nat.reduceEqDiff, Nat.reduceLT, Nat.reduceAdd, Int.reduceNeg, Int.reduceLT, Int.reduceLE, Int.reduceToNat, Int.reduceEq, ↓reduceIte, ite_true, ite_false, Option.toList, Nat.reduceMul, Nat.reduceSub, Nat.reduceLeDiff, ne_eq, eq_self, u_1, ag_1, sz_1, by_1, ze_1, es_1, u_2, ag_2, sz_2, by_2, ze_2, es_2, u_3, ag_3, sz_3, by_3, ze_3, es_3, u_4, ag_4, sz_4, by_4, ze_4, bo_4, es_4, u_5, ag_5, sz_5, by_5, ze_5, u8_5, es_5, u_9, ag_9, sz_9, by_9, ze_9, es_9, u_10, ag_10, sz_10, by_10, ze_10, es_10, u_26, ag_26, sz_26, by_26, ze_26, es_26, u_27, ag_27, sz_27, by_27, ze_27, es_27, u_53, ag_53, sz_53, by_53, ze_53, es_53, u_55, f_55_0, f_55_1, f_55_2, f_55_3, f_55_4, f_55_5, f_55_6, f_55_7, f_55_8, ag_55, sz_55, by_55, ze_55, pl_55, es_55, u_57, ag_57, sz_57, by_57, ze_57, es_57, u_63, f_63_0, f_63_1, f_63_2, f_63_3, f_63_4, f_63_5, f_63_6, f_63_7, f_63_8, f_63_9, f_63_10, ag_63, sz_63, by_63, ze_63, pl_63, es_63, u_64, ag_64, sz_64, by_64, ze_64, es_64, ↓AW_loop, k2']
  refine (find_q m id a hl).use' fun g => ?_
  have ag := a.app g
  have ug := Upd.app h g (foot p sb ids)
  obtain ⟨b, hib, hbb⟩ := a.idb hsi
  have hbX := fun X => blkA_app X hbb
  have htX := fun X => blkA_app X a.top
  have hbl := blkA_lt hbb
  have hmem := List.mem_of_getElem? hib
  have hsb := hs s (List.mem_of_getElem? hsi)
  rw [e, findV_at hib]
  have c3' : (kind : Int) = 3 := by omega
  cases hov : s.over with
  | true =>
    have hbe : bodyE m s kind body = 16 := by unfold bodyE; rw [if_pos ⟨.inr c3, hov⟩]
    rw [hbe, if_pos (by decide)]
    simp -dsimp -implicitDefEqProofs (disch := first | omega | (simp only [stT, u_1, ag_1, sz_1, by_1, ze_1, es_1, u_2, ag_2, sz_2, by_2, ze_2, es_2, u_3, ag_3, sz_3, by_3, ze_3, es_3, u_4, ag_4, sz_4, by_4, ze_4, bo_4, es_4, u_5, ag_5, sz_5, by_5, ze_5, u8_5, es_5, u_9, ag_9, sz_9, by_9, ze_9, es_9, u_10, ag_10, sz_10, by_10, ze_10, es_10, u_26, ag_26, sz_26, by_26, ze_26, es_26, u_27, ag_27, sz_27, by_27, ze_27, es_27, u_53, ag_53, sz_53, by_53, ze_53, es_53, u_55, f_55_0, f_55_1, f_55_2, f_55_3, f_55_4, f_55_5, f_55_6, f_55_7, f_55_8, ag_55, sz_55, by_55, ze_55, pl_55, es_55, u_57, ag_57, sz_57, by_57, ze_57, es_57, u_63, f_63_0, f_63_1, f_63_2, f_63_3, f_63_4, f_63_5, f_63_6, f_63_7, f_63_8, f_63_9, f_63_10, ag_63, sz_63, by_63, ze_63, pl_63, es_63, u_64, ag_64, sz_64, by_64, ze_64, es_64]; done) | (simp only [List.append_assoc, List.cons_append, List.nil_append, pre_n, pre_c, pre_a, pre_g, pre_r]; done) | (simp only [List.length_set]; done) | (simp only [List.length_set]; omega) | assumption | decide +kernel | fail) only [↓RP, RQ, isConstA, Nat.reduceEqDiff, Nat.reduceLT, Nat.reduceAdd, Int.reduceNeg, Int.reduceLT, Int.reduceLE, Int.reduceToNat, Int.reduceEq, ↓reduceIte, ite_true, ite_false, Option.toList, Nat.reduceMul, Nat.reduceSub, Nat.reduceLeDiff, ne_eq, eq_self, u_1, ag_1, sz_1, by_1, ze_1, es_1, u_2, ag_2, sz_2, by_2, ze_2, es_2, u_3, ag_3, sz_3, by_3, ze_3, es_3, u_4, ag_4, sz_4, by_4, ze_4, bo_4, es_4, u_5, ag_5, sz_5, by_5, ze_5, u8_5, es_5, u_9, ag_9, sz_9, by_9, ze_9, es_9, u_10, ag_10, sz_10, by_10, ze_10, es_10, u_26, ag_26, sz_26, by_26, ze_26, es_26, u_27, ag_27, sz_27, by_27, ze_27, es_27, u_53, ag_53, sz_53, by_53, ze_53, es_53, u_55, f_55_0, f_55_1, f_55_2, f_55_3, f_55_4, f_55_5, f_55_6, f_55_7, f_55_8, ag_55, sz_55, by_55, ze_55, pl_55, es_55, u_57, ag_57, sz_57, by_57, ze_57, es_57, u_63, f_63_0, f_63_1, f_63_2, f_63_3, f_63_4, f_63_5, f_63_6, f_63_7, f_63_8, f_63_9, f_63_10, ag_63, sz_63, by_63, ze_63, pl_63, es_63, u_64, ag_64, sz_64, by_64, ze_64, es_64, ↓AW_loop, hbX, htX, muxC, strmC, ptrC, c3', hov]
    first | exact ⟨rfl, sb, ids, ag, ug⟩ | exact ⟨sb, ids, ag, ug⟩
  | false =>
    have hn1 : ¬ ((kind = 1 ∨ kind = 3) ∧ s.over = true) := by rw [hov]; simp
    by_cases d1 : body = []
    · have hn2 : ¬ ((kind = 1 ∧ (body = [] ∨ 64 < body.length)) ∨ (kind = 5 ∧ body.length ≠ 2) ∨ ((kind = 3 ∨ kind = 4) ∧ body ≠ [])) := by simp [c3, d1]
      have hbe : bodyE m s kind body = 0 := by unfold bodyE; rw [if_neg hn1, if_neg hn2, if_neg (fun h => c1 h.1), if_neg (by omega)]
      rw [hbe, if_neg (by decide), bodyS, if_neg c1, if_pos c3]
      simp -dsimp -implicitDefEqProofs (disch := first | omega | (simp only [stT, u_1, ag_1, sz_1, by_1, ze_1, es_1, u_2, ag_2, sz_2, by_2, ze_2, es_2, u_3, ag_3, sz_3, by_3, ze_3, es_3, u_4, ag_4, sz_4, by_4, ze_4, bo_4, es_4, u_5, ag_5, sz_5, by_5, ze_5, u8_5, es_5, u_9, ag_9, sz_9, by_9, ze_9, es_9, u_10, ag_10, sz_10, by_10, ze_10, es_10, u_26, ag_26, sz_26, by_26, ze_26, es_26, u_27, ag_27, sz_27, by_27, ze_27, es_27, u_53, ag_53, sz_53, by_53, ze_53, es_53, u_55, f_55_0, f_55_1, f_55_2, f_55_3, f_55_4, f_55_5, f_55_6, f_55_7, f_55_8, ag_55, sz_55, by_55, ze_55, pl_55, es_55, u_57, ag_57, sz_57, by_57, ze_57, es_57, u_63, f_63_0, f_63_1, f_63_2, f_63_3, f_63_4, f_63_5, f_63_6, f_63_7, f_63_8, f_63_9, f_63_10, ag_63, sz_63, by_63, ze_63, pl_63, es_63, u_64, ag_64, sz_64, by_64, ze_64, es_64]; done) | (simp only [List.append_assoc, List.cons_append, List.nil_append, pre_n, pre_c, pre_a, pre_g, pre_r]; done) | (simp only [List.length_set]; done) | (simp only [List.length_set]; omega) | assumption | decide +kernel | fail) only [↓RP, RQ, isConstA, Nat.reduceEqDiff, Nat.reduceLT, Nat.reduceAdd, Int.reduceNeg, Int.reduceLT, Int.reduceLE, Int.reduceToNat, Int.reduceEq, ↓reduceIte, ite_true, ite_false, Option.toList, Nat.reduceMul, Nat.reduceSub, Nat.reduceLeDiff, ne_eq, eq_self, u_1, ag_1, sz_1, by_1, ze_1, es_1, u_2, ag_2, sz_2, by_2, ze_2, es_2, u_3, ag_3, sz_3, by_3, ze_3, es_3, u_4, ag_4, sz_4, by_4, ze_4, bo_4, es_4, u_5, ag_5, sz_5, by_5, ze_5, u8_5, es_5, u_9, ag_9, sz_9, by_9, ze_9, es_9, u_10, ag_10, sz_10, by_10, ze_10, es_10, u_26, ag_26, sz_26, by_26, ze_26, es_26, u_27, ag_27, sz_27, by_27, ze_27, es_27, u_53, ag_53, sz_53, by_53, ze_53, es_53, u_55, f_55_0, f_55_1, f_55_2, f_55_3, f_55_4, f_55_5, f_55_6, f_55_7, f_55_8, ag_55, sz_55, by_55, ze_55, pl_55, es_55, u_57, ag_57, sz_57, by_57, ze_57, es_57, u_63, f_63_0, f_63_1, f_63_2, f_63_3, f_63_4, f_63_5, f_63_6, f_63_7, f_63_8, f_63_9, f_63_10, ag_63, sz_63, by_63, ze_63, pl_63, es_63, u_64, ag_64, sz_64, by_64, ze_64, es_64, ↓AW_loop, hbX, htX, muxC, strmC, ptrC, c3', hov, d1]
      have a2 := (a.setStr hib { s with over := true }).app g
      simp only [strmC] at a2
      exact ⟨sb, ids, a2, ((Upd.refl h (foot p sb ids)).set (by simp [foot, hmem])).more g⟩
    · skip
      have hbe : bodyE m s kind body = 3 := by unfold bodyE; rw [if_neg hn1, if_pos (.inr (.inr ⟨.inl c3, d1⟩))]
      rw [hbe, if_pos (by decide)]
      simp -dsimp -implicitDefEqProofs (disch := first | omega | (simp only [stT, u_1, ag_1, sz_1, by_1, ze_1, es_1, u_2, ag_2, sz_2, by_2, ze_2, es_2, u_3, ag_3, sz_3, by_3, ze_3, es_3, u_4, ag_4, sz_4, by_4, ze_4, bo_4, es_4, u_5, ag_5, sz_5, by_5, ze_5, u8_5, es_5, u_9, ag_9, sz_9, by_9, ze_9, es_9, u_10, ag_10, sz_10, by_10, ze_10, es_10, u_26, ag_26, sz_26, by_26, ze_26, es_26, u_27, ag_27, sz_27, by_27, ze_27, es_27, u_53, ag_53, sz_53, by_53, ze_53, es_53, u_55, f_55_0, f_55_1, f_55_2, f_55_3, f_55_4, f_55_5, f_55_6, f_55_7, f_55_8, ag_55, sz_55, by_55, ze_55, pl_55, es_55, u_57, ag_57, sz_57, by_57, ze_57, es_57, u_63, f_63_0, f_63_1, f_63_2, f_63_3, f_63_4, f_63_5, f_63_6, f_63_7, f_63_8, f_63_9, f_63_10, ag_63, sz_63, by_63, ze_63, pl_63, es_63, u_64, ag_64, sz_64, by_64, ze_64, es_64]; done) | (simp only [List.append_assoc, List.cons_append, List.nil_append, pre_n, pre_c, pre_a, pre_g, pre_r]; done) | (simp only [List.length_set]; done) | (simp only [List.length_set]; omega) | assumption | decide +kernel | fail) only [↓RP, RQ, isConstA, Nat.reduceEqDiff, Nat.reduceLT, Nat.reduceAdd, Int.reduceNeg, Int.reduceLT, Int.reduceLE, Int.reduceToNat, Int.reduceEq, ↓reduceIte, ite_true, ite_false, Option.toList, Nat.reduceMul, Nat.reduceSub, Nat.reduceLeDiff, ne_eq, eq_self, u_1, ag_1, sz_1, by_1, ze_1, es_1, u_2, ag_2, sz_2, by_2, ze_2, es_2, u_3, ag_3, sz_3, by_3, ze_3, es_3, u_4, ag_4, sz_4, by_4, ze_4, bo_4, es_4, u_5, ag_5, sz_5, by_5, ze_5, u8_5, es_5, u_9, ag_9, sz_9, by_9, ze_9, es_9, u_10, ag_10, sz_10, by_10, ze_10, es_10, u_26, ag_26, sz_26, by_26, ze_26, es_26, u_27, ag_27, sz_27, by_27, ze_27, es_27, u_53, ag_53, sz_53, by_53, ze_53, es_53, u_55, f_55_0, f_55_1, f_55_2, f_55_3, f_55_4, f_55_5, f_55_6, f_55_7, f_55_8, ag_55, sz_55, by_55, ze_55, pl_55, es_55, u_57, ag_57, sz_57, by_57, ze_57, es_57, u_63, f_63_0, f_63_1, f_63_2, f_63_3, f_63_4, f_63_5, f_63_6, f_63_7, f_63_8, f_63_9, f_63_10, ag_63, sz_63, by_63, ze_63, pl_63, es_63, u_64, ag_64, sz_64, by_64, ze_64, es_64, ↓AW_loop, hbX, htX, muxC, strmC, ptrC, c3', hov, d1]
      first | exact ⟨rfl, sb, ids, ag, ug⟩ | exact ⟨sb, ids, ag, ug⟩
theorem got4_q (m : MuxS) (kind id : Nat) (body : List UInt8) (i : Nat) (s : Strm) {h : AHeap} {p : Nat} {sb : Option Nat} {ids : List Nat} (a : MuxAt h p sb ids m) (hl : ids.length < 2 ^ 40) (hh : body.length < 2 ^ 40)
    (hm : m.window < 2 ^ 40) (hs : ∀ s, s ∈ m.streams → s.window < 2 ^ 40 ∧ s.room < 2 ^ 40 ∧ s.inn.length < 2 ^ 40) (c4 : kind = 4) (e : findS m id = (i : Int)) (hsi : m.streams[i]? = some s) :
    FW cx 31 [ptrC p, .int .i64 kind, .int .i64 id, .string (str body)] h fun v h' => v = .int .i64 (bodyE m s kind body : Nat) ∧ ∃ sb' ids', MuxAt h' p sb' ids' (if bodyE m s kind body ≠ 0 then m else { m with streams := m.streams.set i (bodyS s kind body) }) ∧ Upd h h' (foot p sb ids) (foot p sb' ids') := by
  refine FW_f Try.func31 rfl (by decide +kernel) ?_
  have c1 : ¬ kind = 1 := by omega
  have c3 : ¬ kind = 3 := by omega
  have k2' : ¬ (kind : Int) = 2 := by omega
  simp -dsimp -implicitDefEqProofs (disch := first | omega | (simp only [stT, u_1, ag_1, sz_1, by_1, ze_1, es_1, u_2, ag_2, sz_2, by_2, ze_2, es_2, u_3, ag_3, sz_3, by_3, ze_3, es_3, u_4, ag_4, sz_4, by_4, ze_4, bo_4, es_4, u_5, ag_5, sz_5, by_5, ze_5, u8_5, es_5, u_9, ag_9, sz_9, by_9, ze_9, es_9, u_10, ag_10, sz_10, by_10, ze_10, es_10, u_26, ag_26, sz_26, by_26, ze_26, es_26, u_27, ag_27, sz_27, by_27, ze_27, es_27, u_53, ag_53, sz_53, by_53, ze_53, es_53, u_55, f_55_0, f_55_1, f_55_2, f_55_3, f_55_4, f_55_5, f_55_6, f_55_7, f_55_8, ag_55, sz_55, by_55, ze_55, pl_55, es_55, u_57, ag_57, sz_57, by_57, ze_57, es_57, u_63, f_63_0, f_63_1, f_63_2, f_63_3, f_63_4, f_63_5, f_63_6, f_63_7, f_63_8, f_63_9, f_63_10, ag_63, sz_63, by_63, ze_63, pl_63, es_63, u_64, ag_64, sz_64, by_64, ze_64, es_64]; done) | (simp only [List.append_assoc, List.cons_append, List.nil_append, pre_n, pre_c, pre_a, pre_g, pre_r]; done) | (simp only [List.length_set]; done) | (simp only [List.length_set]; omega) | assumption | decide +kernel | fail) only [↓RP, RQ, isConstA, Nat.reduceEqDiff, Nat.reduceLT, Nat.reduceAdd, Int.reduceNeg, Int.reduceLT, Int.reduceLE, Int.reduceToNat, Int.reduceEq, ↓reduceIte, ite_true, ite_false, Option.toList, Nat.reduceMul, Nat.reduceSub, Nat.reduceLeDiff, ne_eq, eq_self, u_1, ag_1, sz_1, by_1, ze_1, es_1, u_2, ag_2, sz_2, by_2, ze_2, es_2, u_3, ag_3, sz_3, by_3, ze_3, es_3, u_4, ag_4, sz_4, by_4, ze_4, bo_4, es_4, u_5, ag_5, sz_5, by_5, ze_5, u8_5, es_5, u_9, ag_9, sz_9, by_9, ze_9, es_9, u_10, ag_10, sz_10, by_10, ze_10, es_10, u_26, ag_26, sz_26, by_26, ze_26, es_26, u_27, ag_27, sz_27, by_27, ze_27, es_27, u_53, ag_53, sz_53, by_53, ze_53, es_53, u_55, f_55_0, f_55_1, f_55_2, f_55_3, f_55_4, f_55_5, f_55_6, f_55_7, f_55_8, ag_55, sz_55, by_55, ze_55, pl_55, es_55, u_57, ag_57, sz_57, by_57, ze_57, es_57, u_63, f_63_0, f_63_1, f_63_2, f_63_3, f_63_4, f_63_5, f_63_6, f_63_7, f_63_8, f_63_9, f_63_10, ag_63, sz_63, by_63, ze_63, pl_63, es_63, u_64, ag_64, sz_64, by_64, ze_64, es_64, ↓AW_loop, k2']
  refine (find_q m id a hl).use' fun g => ?_
  have ag := a.app g
  have ug := Upd.app h g (foot p sb ids)
  obtain ⟨b, hib, hbb⟩ := a.idb hsi
  have hbX := fun X => blkA_app X hbb
  have htX := fun X => blkA_app X a.top
  have hbl := blkA_lt hbb
  have hmem := List.mem_of_getElem? hib
  have hsb := hs s (List.mem_of_getElem? hsi)
  rw [e, findV_at hib]
  have c4' : (kind : Int) = 4 := by omega
  have hn1 : ¬ ((kind = 1 ∨ kind = 3) ∧ s.over = true) := by simp [c1, c3]
  by_cases d1 : body = []
  · have hn2 : ¬ ((kind = 1 ∧ (body = [] ∨ 64 < body.length)) ∨ (kind = 5 ∧ body.length ≠ 2) ∨ ((kind = 3 ∨ kind = 4) ∧ body ≠ [])) := by simp [c4, d1]
    have hbe : bodyE m s kind body = 0 := by unfold bodyE; rw [if_neg hn1, if_neg hn2, if_neg (fun h => c1 h.1), if_neg (by omega)]
    rw [hbe, if_neg (by decide), bodyS, if_neg c1, if_neg c3, if_pos c4]
    simp -dsimp -implicitDefEqProofs (disch := first | omega | (simp only [stT, u_1, ag_1, sz_1, by_1, ze_1, es_1, u_2, ag_2, sz_2, by_2, ze_2, es_2, u_3, ag_3, sz_3, by_3, ze_3, es_3, u_4, ag_4, sz_4, by_4, ze_4, bo_4, es_4, u_5, ag_5, sz_5, by_5, ze_5, u8_5, es_5, u_9, ag_9, sz_9, by_9, ze_9, es_9, u_10, ag_10, sz_10, by_10, ze_10, es_10, u_26, ag_26, sz_26, by_26, ze_26, es_26, u_27, ag_27, sz_27, by_27, ze_27, es_27, u_53, ag_53, sz_53, by_53, ze_53, es_53, u_55, f_55_0, f_55_1, f_55_2, f_55_3, f_55_4, f_55_5, f_55_6, f_55_7, f_55_8, ag_55, sz_55, by_55, ze_55, pl_55, es_55, u_57, ag_57, sz_57, by_57, ze_57, es_57, u_63, f_63_0, f_63_1, f_63_2, f_63_3, f_63_4, f_63_5, f_63_6, f_63_7, f_63_8, f_63_9, f_63_10, ag_63, sz_63, by_63, ze_63, pl_63, es_63, u_64, ag_64, sz_64, by_64, ze_64, es_64]; done) | (simp only [List.append_assoc, List.cons_append, List.nil_append, pre_n, pre_c, pre_a, pre_g, pre_r]; done) | (simp only [List.length_set]; done) | (simp only [List.length_set]; omega) | assumption | decide +kernel | fail) only [↓RP, RQ, isConstA, Nat.reduceEqDiff, Nat.reduceLT, Nat.reduceAdd, Int.reduceNeg, Int.reduceLT, Int.reduceLE, Int.reduceToNat, Int.reduceEq, ↓reduceIte, ite_true, ite_false, Option.toList, Nat.reduceMul, Nat.reduceSub, Nat.reduceLeDiff, ne_eq, eq_self, u_1, ag_1, sz_1, by_1, ze_1, es_1, u_2, ag_2, sz_2, by_2, ze_2, es_2, u_3, ag_3, sz_3, by_3, ze_3, es_3, u_4, ag_4, sz_4, by_4, ze_4, bo_4, es_4, u_5, ag_5, sz_5, by_5, ze_5, u8_5, es_5, u_9, ag_9, sz_9, by_9, ze_9, es_9, u_10, ag_10, sz_10, by_10, ze_10, es_10, u_26, ag_26, sz_26, by_26, ze_26, es_26, u_27, ag_27, sz_27, by_27, ze_27, es_27, u_53, ag_53, sz_53, by_53, ze_53, es_53, u_55, f_55_0, f_55_1, f_55_2, f_55_3, f_55_4, f_55_5, f_55_6, f_55_7, f_55_8, ag_55, sz_55, by_55, ze_55, pl_55, es_55, u_57, ag_57, sz_57, by_57, ze_57, es_57, u_63, f_63_0, f_63_1, f_63_2, f_63_3, f_63_4, f_63_5, f_63_6, f_63_7, f_63_8, f_63_9, f_63_10, ag_63, sz_63, by_63, ze_63, pl_63, es_63, u_64, ag_64, sz_64, by_64, ze_64, es_64, ↓AW_loop, hbX, htX, muxC, strmC, ptrC, c4', d1]
    have a2 := (a.setStr hib { s with reset := true, out := [], inn := [] }).app g
    simp only [strmC] at a2
    exact ⟨sb, ids, a2, ((Upd.refl h (foot p sb ids)).set (by simp [foot, hmem])).more g⟩
  · skip
    have hbe : bodyE m s kind body = 3 := by unfold bodyE; rw [if_neg hn1, if_pos (.inr (.inr ⟨.inr c4, d1⟩))]
    rw [hbe, if_pos (by decide)]
    simp -dsimp -implicitDefEqProofs (disch := first | omega | (simp only [stT, u_1, ag_1, sz_1, by_1, ze_1, es_1, u_2, ag_2, sz_2, by_2, ze_2, es_2, u_3, ag_3, sz_3, by_3, ze_3, es_3, u_4, ag_4, sz_4, by_4, ze_4, bo_4, es_4, u_5, ag_5, sz_5, by_5, ze_5, u8_5, es_5, u_9, ag_9, sz_9, by_9, ze_9, es_9, u_10, ag_10, sz_10, by_10, ze_10, es_10, u_26, ag_26, sz_26, by_26, ze_26, es_26, u_27, ag_27, sz_27, by_27, ze_27, es_27, u_53, ag_53, sz_53, by_53, ze_53, es_53, u_55, f_55_0, f_55_1, f_55_2, f_55_3, f_55_4, f_55_5, f_55_6, f_55_7, f_55_8, ag_55, sz_55, by_55, ze_55, pl_55, es_55, u_57, ag_57, sz_57, by_57, ze_57, es_57, u_63, f_63_0, f_63_1, f_63_2, f_63_3, f_63_4, f_63_5, f_63_6, f_63_7, f_63_8, f_63_9, f_63_10, ag_63, sz_63, by_63, ze_63, pl_63, es_63, u_64, ag_64, sz_64, by_64, ze_64, es_64]; done) | (simp only [List.append_assoc, List.cons_append, List.nil_append, pre_n, pre_c, pre_a, pre_g, pre_r]; done) | (simp only [List.length_set]; done) | (simp only [List.length_set]; omega) | assumption | decide +kernel | fail) only [↓RP, RQ, isConstA, Nat.reduceEqDiff, Nat.reduceLT, Nat.reduceAdd, Int.reduceNeg, Int.reduceLT, Int.reduceLE, Int.reduceToNat, Int.reduceEq, ↓reduceIte, ite_true, ite_false, Option.toList, Nat.reduceMul, Nat.reduceSub, Nat.reduceLeDiff, ne_eq, eq_self, u_1, ag_1, sz_1, by_1, ze_1, es_1, u_2, ag_2, sz_2, by_2, ze_2, es_2, u_3, ag_3, sz_3, by_3, ze_3, es_3, u_4, ag_4, sz_4, by_4, ze_4, bo_4, es_4, u_5, ag_5, sz_5, by_5, ze_5, u8_5, es_5, u_9, ag_9, sz_9, by_9, ze_9, es_9, u_10, ag_10, sz_10, by_10, ze_10, es_10, u_26, ag_26, sz_26, by_26, ze_26, es_26, u_27, ag_27, sz_27, by_27, ze_27, es_27, u_53, ag_53, sz_53, by_53, ze_53, es_53, u_55, f_55_0, f_55_1, f_55_2, f_55_3, f_55_4, f_55_5, f_55_6, f_55_7, f_55_8, ag_55, sz_55, by_55, ze_55, pl_55, es_55, u_57, ag_57, sz_57, by_57, ze_57, es_57, u_63, f_63_0, f_63_1, f_63_2, f_63_3, f_63_4, f_63_5, f_63_6, f_63_7, f_63_8, f_63_9, f_63_10, ag_63, sz_63, by_63, ze_63, pl_63, es_63, u_64, ag_64, sz_64, by_64, ze_64, es_64, ↓AW_loop, hbX, htX, muxC, strmC, ptrC, c4', d1]
    first | exact ⟨rfl, sb, ids, ag, ug⟩ | exact ⟨sb, ids, ag, ug⟩
theorem got5_q (m : MuxS) (kind id : Nat) (body : List UInt8) (i : Nat) (s : Strm) {h : AHeap} {p : Nat} {sb : Option Nat} {ids : List Nat} (a : MuxAt h p sb ids m) (hl : ids.length < 2 ^ 40) (hh : body.length < 2 ^ 40)
    (hm : m.window < 2 ^ 40) (hs : ∀ s, s ∈ m.streams → s.window < 2 ^ 40 ∧ s.room < 2 ^ 40 ∧ s.inn.length < 2 ^ 40) (c5 : kind = 5) (e : findS m id = (i : Int)) (hsi : m.streams[i]? = some s) :
    FW cx 31 [ptrC p, .int .i64 kind, .int .i64 id, .string (str body)] h fun v h' => v = .int .i64 (bodyE m s kind body : Nat) ∧ ∃ sb' ids', MuxAt h' p sb' ids' (if bodyE m s kind body ≠ 0 then m else { m with streams := m.streams.set i (bodyS s kind body) }) ∧ Upd h h' (foot p sb ids) (foot p sb' ids') := by
  refine FW_f Try.func31 rfl (by decide +kernel) ?_
  have c1 : ¬ kind = 1 := by omega
  have c3 : ¬ kind = 3 := by omega
  have c4 : ¬ kind = 4 := by omega
  have k2' : ¬ (kind : Int) = 2 := by omega
  simp -dsimp -implicitDefEqProofs (disch := first | omega | (simp only [stT, u_1, ag_1, sz_1, by_1, ze_1, es_1, u_2, ag_2, sz_2, by_2, ze_2, es_2, u_3, ag_3, sz_3, by_3, ze_3, es_3, u_4, ag_4, sz_4, by_4, ze_4, bo_4, es_4, u_5, ag_5, sz_5, by_5, ze_5, u8_5, es_5, u_9, ag_9, sz_9, by_9, ze_9, es_9, u_10, ag_10, sz_10, by_10, ze_10, es_10, u_26, ag_26, sz_26, by_26, ze_26, es_26, u_27, ag_27, sz_27, by_27, ze_27, es_27, u_53, ag_53, sz_53, by_53, ze_53, es_53, u_55, f_55_0, f_55_1, f_55_2, f_55_3, f_55_4, f_55_5, f_55_6, f_55_7, f_55_8, ag_55, sz_55, by_55, ze_55, pl_55, es_55, u_57, ag_57, sz_57, by_57, ze_57, es_57, u_63, f_63_0, f_63_1, f_63_2, f_63_3, f_63_4, f_63_5, f_63_6, f_63_7, f_63_8, f_63_9, f_63_10, ag_63, sz_63, by_63, ze_63, pl_63, es_63, u_64, ag_64, sz_64, by_64, ze_64, es_64]; done) | (simp only [List.append_assoc, List.cons_append, List.nil_append, pre_n, pre_c, pre_a, pre_g, pre_r]; done) | (simp only [List.length_set]; done) | (simp only [List.length_set]; omega) | assumption | decide +kernel | fail) only [↓RP, RQ, isConstA, Nat.reduceEqDiff, Nat.reduceLT, Nat.reduceAdd, Int.reduceNeg, Int.reduceLT, Int.reduceLE, Int.reduceToNat, Int.reduceEq, ↓reduceIte, ite_true, ite_false, Option.toList, Nat.reduceMul, Nat.reduceSub, Nat.reduceLeDiff, ne_eq, eq_self, u_1, ag_1, sz_1, by_1, ze_1, es_1, u_2, ag_2, sz_2, by_2, ze_2, es_2, u_3, ag_3, sz_3, by_3, ze_3, es_3, u_4, ag_4, sz_4, by_4, ze_4, bo_4, es_4, u_5, ag_5, sz_5, by_5, ze_5, u8_5, es_5, u_9, ag_9, sz_9, by_9, ze_9, es_9, u_10, ag_10, sz_10, by_10, ze_10, es_10, u_26, ag_26, sz_26, by_26, ze_26, es_26, u_27, ag_27, sz_27, by_27, ze_27, es_27, u_53, ag_53, sz_53, by_53, ze_53, es_53, u_55, f_55_0, f_55_1, f_55_2, f_55_3, f_55_4, f_55_5, f_55_6, f_55_7, f_55_8, ag_55, sz_55, by_55, ze_55, pl_55, es_55, u_57, ag_57, sz_57, by_57, ze_57, es_57, u_63, f_63_0, f_63_1, f_63_2, f_63_3, f_63_4, f_63_5, f_63_6, f_63_7, f_63_8, f_63_9, f_63_10, ag_63, sz_63, by_63, ze_63, pl_63, es_63, u_64, ag_64, sz_64, by_64, ze_64, es_64, ↓AW_loop, k2']
  refine (find_q m id a hl).use' fun g => ?_
  have ag := a.app g
  have ug := Upd.app h g (foot p sb ids)
  obtain ⟨b, hib, hbb⟩ := a.idb hsi
  have hbX := fun X => blkA_app X hbb
  have htX := fun X => blkA_app X a.top
  have hbl := blkA_lt hbb
  have hmem := List.mem_of_getElem? hib
  have hsb := hs s (List.mem_of_getElem? hsi)
  rw [e, findV_at hib]
  skip
  have c5' : (kind : Int) = 5 := by omega
  have hn1 : ¬ ((kind = 1 ∨ kind = 3) ∧ s.over = true) := by simp [c1, c3]
  by_cases d1 : body.length = 2
  · have hn2 : ¬ ((kind = 1 ∧ (body = [] ∨ 64 < body.length)) ∨ (kind = 5 ∧ body.length ≠ 2) ∨ ((kind = 3 ∨ kind = 4) ∧ body ≠ [])) := by simp [c5, d1]
    have d1' : (body.length : Int) = 2 := by omega
    obtain ⟨x0, hx0⟩ : ∃ x, ((body[0]?).getD 0).toNat = x := ⟨_, rfl⟩
    obtain ⟨x1, hx1⟩ : ∃ x, ((body[1]?).getD 0).toNat = x := ⟨_, rfl⟩
    have hb0 : x0 < 256 := by rw [← hx0]; exact UInt8.toNat_lt _
    have hb1 : x1 < 256 := by rw [← hx1]; exact UInt8.toNat_lt _
    obtain ⟨tw, htw⟩ : ∃ tw, two body = tw := ⟨_, rfl⟩
    have htw2 : x0 * 256 + x1 = tw := by rw [← htw, two, hx0, hx1]
    have hor : x0 * 256 ||| x1 = tw := by rw [or_256 hb1]; exact htw2
    by_cases t0 : tw = 0
    · have t0' : (tw : Int) = 0 := by omega
      have hbe : bodyE m s kind body = 10 := by unfold bodyE; rw [if_neg hn1, if_neg hn2, if_neg (fun h => c1 h.1), if_pos ⟨c5, .inl (by rw [htw]; exact t0)⟩]
      rw [hbe, if_pos (by decide)]
      simp -dsimp -implicitDefEqProofs (disch := first | omega | (simp only [stT, u_1, ag_1, sz_1, by_1, ze_1, es_1, u_2, ag_2, sz_2, by_2, ze_2, es_2, u_3, ag_3, sz_3, by_3, ze_3, es_3, u_4, ag_4, sz_4, by_4, ze_4, bo_4, es_4, u_5, ag_5, sz_5, by_5, ze_5, u8_5, es_5, u_9, ag_9, sz_9, by_9, ze_9, es_9, u_10, ag_10, sz_10, by_10, ze_10, es_10, u_26, ag_26, sz_26, by_26, ze_26, es_26, u_27, ag_27, sz_27, by_27, ze_27, es_27, u_53, ag_53, sz_53, by_53, ze_53, es_53, u_55, f_55_0, f_55_1, f_55_2, f_55_3, f_55_4, f_55_5, f_55_6, f_55_7, f_55_8, ag_55, sz_55, by_55, ze_55, pl_55, es_55, u_57, ag_57, sz_57, by_57, ze_57, es_57, u_63, f_63_0, f_63_1, f_63_2, f_63_3, f_63_4, f_63_5, f_63_6, f_63_7, f_63_8, f_63_9, f_63_10, ag_63, sz_63, by_63, ze_63, pl_63, es_63, u_64, ag_64, sz_64, by_64, ze_64, es_64]; done) | (simp only [List.append_assoc, List.cons_append, List.nil_append, pre_n, pre_c, pre_a, pre_g, pre_r]; done) | (simp only [List.length_set]; done) | (simp only [List.length_set]; omega) | assumption | decide +kernel | fail) only [↓RP, RQ, isConstA, Nat.reduceEqDiff, Nat.reduceLT, Nat.reduceAdd, Int.reduceNeg, Int.reduceLT, Int.reduceLE, Int.reduceToNat, Int.reduceEq, ↓reduceIte, ite_true, ite_false, Option.toList, Nat.reduceMul, Nat.reduceSub, Nat.reduceLeDiff, ne_eq, eq_self, u_1, ag_1, sz_1, by_1, ze_1, es_1, u_2, ag_2, sz_2, by_2, ze_2, es_2, u_3, ag_3, sz_3, by_3, ze_3, es_3, u_4, ag_4, sz_4, by_4, ze_4, bo_4, es_4, u_5, ag_5, sz_5, by_5, ze_5, u8_5, es_5, u_9, ag_9, sz_9, by_9, ze_9, es_9, u_10, ag_10, sz_10, by_10, ze_10, es_10, u_26, ag_26, sz_26, by_26, ze_26, es_26, u_27, ag_27, sz_27, by_27, ze_27, es_27, u_53, ag_53, sz_53, by_53, ze_53, es_53, u_55, f_55_0, f_55_1, f_55_2, f_55_3, f_55_4, f_55_5, f_55_6, f_55_7, f_55_8, ag_55, sz_55, by_55, ze_55, pl_55, es_55, u_57, ag_57, sz_57, by_57, ze_57, es_57, u_63, f_63_0, f_63_1, f_63_2, f_63_3, f_63_4, f_63_5, f_63_6, f_63_7, f_63_8, f_63_9, f_63_10, ag_63, sz_63, by_63, ze_63, pl_63, es_63, u_64, ag_64, sz_64, by_64, ze_64, es_64, ↓AW_loop, hbX, htX, muxC, strmC, ptrC, c5', d1', hx0, hx1, hor, GW_u, t0']
      refine ⟨by decide +kernel, ?_⟩
      refine ⟨by decide +kernel, ?_⟩
      exact ⟨rfl, sb, ids, ag, ug⟩
    · have t0' : ¬ (tw : Int) = 0 := by omega
      by_cases t1 : m.window < s.window + tw
      · have t1' : (m.window : Int) < s.window + tw := by omega
        have hbe : bodyE m s kind body = 10 := by unfold bodyE; rw [if_neg hn1, if_neg hn2, if_neg (fun h => c1 h.1), if_pos ⟨c5, .inr (by rw [htw]; exact t1)⟩]
        rw [hbe, if_pos (by decide)]
        simp -dsimp -implicitDefEqProofs (disch := first | omega | (simp only [stT, u_1, ag_1, sz_1, by_1, ze_1, es_1, u_2, ag_2, sz_2, by_2, ze_2, es_2, u_3, ag_3, sz_3, by_3, ze_3, es_3, u_4, ag_4, sz_4, by_4, ze_4, bo_4, es_4, u_5, ag_5, sz_5, by_5, ze_5, u8_5, es_5, u_9, ag_9, sz_9, by_9, ze_9, es_9, u_10, ag_10, sz_10, by_10, ze_10, es_10, u_26, ag_26, sz_26, by_26, ze_26, es_26, u_27, ag_27, sz_27, by_27, ze_27, es_27, u_53, ag_53, sz_53, by_53, ze_53, es_53, u_55, f_55_0, f_55_1, f_55_2, f_55_3, f_55_4, f_55_5, f_55_6, f_55_7, f_55_8, ag_55, sz_55, by_55, ze_55, pl_55, es_55, u_57, ag_57, sz_57, by_57, ze_57, es_57, u_63, f_63_0, f_63_1, f_63_2, f_63_3, f_63_4, f_63_5, f_63_6, f_63_7, f_63_8, f_63_9, f_63_10, ag_63, sz_63, by_63, ze_63, pl_63, es_63, u_64, ag_64, sz_64, by_64, ze_64, es_64]; done) | (simp only [List.append_assoc, List.cons_append, List.nil_append, pre_n, pre_c, pre_a, pre_g, pre_r]; done) | (simp only [List.length_set]; done) | (simp only [List.length_set]; omega) | assumption | decide +kernel | fail) only [↓RP, RQ, isConstA, Nat.reduceEqDiff, Nat.reduceLT, Nat.reduceAdd, Int.reduceNeg, Int.reduceLT, Int.reduceLE, Int.reduceToNat, Int.reduceEq, ↓reduceIte, ite_true, ite_false, Option.toList, Nat.reduceMul, Nat.reduceSub, Nat.reduceLeDiff, ne_eq, eq_self, u_1, ag_1, sz_1, by_1, ze_1, es_1, u_2, ag_2, sz_2, by_2, ze_2, es_2, u_3, ag_3, sz_3, by_3, ze_3, es_3, u_4, ag_4, sz_4, by_4, ze_4, bo_4, es_4, u_5, ag_5, sz_5, by_5, ze_5, u8_5, es_5, u_9, ag_9, sz_9, by_9, ze_9, es_9, u_10, ag_10, sz_10, by_10, ze_10, es_10, u_26, ag_26, sz_26, by_26, ze_26, es_26, u_27, ag_27, sz_27, by_27, ze_27, es_27, u_53, ag_53, sz_53, by_53, ze_53, es_53, u_55, f_55_0, f_55_1, f_55_2, f_55_3, f_55_4, f_55_5, f_55_6, f_55_7, f_55_8, ag_55, sz_55, by_55, ze_55, pl_55, es_55, u_57, ag_57, sz_57, by_57, ze_57, es_57, u_63, f_63_0, f_63_1, f_63_2, f_63_3, f_63_4, f_63_5, f_63_6, f_63_7, f_63_8, f_63_9, f_63_10, ag_63, sz_63, by_63, ze_63, pl_63, es_63, u_64, ag_64, sz_64, by_64, ze_64, es_64, ↓AW_loop, hbX, htX, muxC, strmC, ptrC, c5', d1', hx0, hx1, hor, GW_u, t0', t1']
        refine ⟨by decide +kernel, ?_⟩
        refine ⟨by decide +kernel, ?_⟩
        exact ⟨rfl, sb, ids, ag, ug⟩
      · have t1' : ¬ (m.window : Int) < s.window + tw := by omega
        have hbe : bodyE m s kind body = 0 := by unfold bodyE; rw [if_neg hn1, if_neg hn2, if_neg (fun h => c1 h.1), if_neg (fun h => by have := h.2; rw [htw] at this; omega)]
        have hadd : (s.window : Int) + (tw : Int) = ((s.window + tw : Nat) : Int) := by omega
        rw [hadd] at t1'
        rw [hbe, if_neg (by decide), bodyS, if_neg c1, if_neg c3, if_neg c4, htw]
        simp -dsimp -implicitDefEqProofs (disch := first | omega | (simp only [stT, u_1, ag_1, sz_1, by_1, ze_1, es_1, u_2, ag_2, sz_2, by_2, ze_2, es_2, u_3, ag_3, sz_3, by_3, ze_3, es_3, u_4, ag_4, sz_4, by_4, ze_4, bo_4, es_4, u_5, ag_5, sz_5, by_5, ze_5, u8_5, es_5, u_9, ag_9, sz_9, by_9, ze_9, es_9, u_10, ag_10, sz_10, by_10, ze_10, es_10, u_26, ag_26, sz_26, by_26, ze_26, es_26, u_27, ag_27, sz_27, by_27, ze_27, es_27, u_53, ag_53, sz_53, by_53, ze_53, es_53, u_55, f_55_0, f_55_1, f_55_2, f_55_3, f_55_4, f_55_5, f_55_6, f_55_7, f_55_8, ag_55, sz_55, by_55, ze_55, pl_55, es_55, u_57, ag_57, sz_57, by_57, ze_57, es_57, u_63, f_63_0, f_63_1, f_63_2, f_63_3, f_63_4, f_63_5, f_63_6, f_63_7, f_63_8, f_63_9, f_63_10, ag_63, sz_63, by_63, ze_63, pl_63, es_63, u_64, ag_64, sz_64, by_64, ze_64, es_64]; done) | (simp only [List.append_assoc, List.cons_append, List.nil_append, pre_n, pre_c, pre_a, pre_g, pre_r]; done) | (simp only [List.length_set]; done) | (simp only [List.length_set]; omega) | assumption | decide +kernel | fail) only [↓RP, RQ, isConstA, Nat.reduceEqDiff, Nat.reduceLT, Nat.reduceAdd, Int.reduceNeg, Int.reduceLT, Int.reduceLE, Int.reduceToNat, Int.reduceEq, ↓reduceIte, ite_true, ite_false, Option.toList, Nat.reduceMul, Nat.reduceSub, Nat.reduceLeDiff, ne_eq, eq_self, u_1, ag_1, sz_1, by_1, ze_1, es_1, u_2, ag_2, sz_2, by_2, ze_2, es_2, u_3, ag_3, sz_3, by_3, ze_3, es_3, u_4, ag_4, sz_4, by_4, ze_4, bo_4, es_4, u_5, ag_5, sz_5, by_5, ze_5, u8_5, es_5, u_9, ag_9, sz_9, by_9, ze_9, es_9, u_10, ag_10, sz_10, by_10, ze_10, es_10, u_26, ag_26, sz_26, by_26, ze_26, es_26, u_27, ag_27, sz_27, by_27, ze_27, es_27, u_53, ag_53, sz_53, by_53, ze_53, es_53, u_55, f_55_0, f_55_1, f_55_2, f_55_3, f_55_4, f_55_5, f_55_6, f_55_7, f_55_8, ag_55, sz_55, by_55, ze_55, pl_55, es_55, u_57, ag_57, sz_57, by_57, ze_57, es_57, u_63, f_63_0, f_63_1, f_63_2, f_63_3, f_63_4, f_63_5, f_63_6, f_63_7, f_63_8, f_63_9, f_63_10, ag_63, sz_63, by_63, ze_63, pl_63, es_63, u_64, ag_64, sz_64, by_64, ze_64, es_64, ↓AW_loop, hbX, htX, muxC, strmC, ptrC, c5', d1', hx0, hx1, hor, GW_u, t0', t1', hadd]
        refine ⟨by decide +kernel, ?_⟩
        refine ⟨by decide +kernel, ?_⟩
        have a2 := (a.setStr hib { s with window := s.window + tw }).app g
        simp only [strmC] at a2
        exact ⟨sb, ids, a2, ((Upd.refl h (foot p sb ids)).set (by simp [foot, hmem])).more g⟩
  · have d1' : ¬ (body.length : Int) = 2 := by omega
    have hbe : bodyE m s kind body = 3 := by unfold bodyE; rw [if_neg hn1, if_pos (.inr (.inl ⟨c5, d1⟩))]
    rw [hbe, if_pos (by decide)]
    simp -dsimp -implicitDefEqProofs (disch := first | omega | (simp only [stT, u_1, ag_1, sz_1, by_1, ze_1, es_1, u_2, ag_2, sz_2, by_2, ze_2, es_2, u_3, ag_3, sz_3, by_3, ze_3, es_3, u_4, ag_4, sz_4, by_4, ze_4, bo_4, es_4, u_5, ag_5, sz_5, by_5, ze_5, u8_5, es_5, u_9, ag_9, sz_9, by_9, ze_9, es_9, u_10, ag_10, sz_10, by_10, ze_10, es_10, u_26, ag_26, sz_26, by_26, ze_26, es_26, u_27, ag_27, sz_27, by_27, ze_27, es_27, u_53, ag_53, sz_53, by_53, ze_53, es_53, u_55, f_55_0, f_55_1, f_55_2, f_55_3, f_55_4, f_55_5, f_55_6, f_55_7, f_55_8, ag_55, sz_55, by_55, ze_55, pl_55, es_55, u_57, ag_57, sz_57, by_57, ze_57, es_57, u_63, f_63_0, f_63_1, f_63_2, f_63_3, f_63_4, f_63_5, f_63_6, f_63_7, f_63_8, f_63_9, f_63_10, ag_63, sz_63, by_63, ze_63, pl_63, es_63, u_64, ag_64, sz_64, by_64, ze_64, es_64]; done) | (simp only [List.append_assoc, List.cons_append, List.nil_append, pre_n, pre_c, pre_a, pre_g, pre_r]; done) | (simp only [List.length_set]; done) | (simp only [List.length_set]; omega) | assumption | decide +kernel | fail) only [↓RP, RQ, isConstA, Nat.reduceEqDiff, Nat.reduceLT, Nat.reduceAdd, Int.reduceNeg, Int.reduceLT, Int.reduceLE, Int.reduceToNat, Int.reduceEq, ↓reduceIte, ite_true, ite_false, Option.toList, Nat.reduceMul, Nat.reduceSub, Nat.reduceLeDiff, ne_eq, eq_self, u_1, ag_1, sz_1, by_1, ze_1, es_1, u_2, ag_2, sz_2, by_2, ze_2, es_2, u_3, ag_3, sz_3, by_3, ze_3, es_3, u_4, ag_4, sz_4, by_4, ze_4, bo_4, es_4, u_5, ag_5, sz_5, by_5, ze_5, u8_5, es_5, u_9, ag_9, sz_9, by_9, ze_9, es_9, u_10, ag_10, sz_10, by_10, ze_10, es_10, u_26, ag_26, sz_26, by_26, ze_26, es_26, u_27, ag_27, sz_27, by_27, ze_27, es_27, u_53, ag_53, sz_53, by_53, ze_53, es_53, u_55, f_55_0, f_55_1, f_55_2, f_55_3, f_55_4, f_55_5, f_55_6, f_55_7, f_55_8, ag_55, sz_55, by_55, ze_55, pl_55, es_55, u_57, ag_57, sz_57, by_57, ze_57, es_57, u_63, f_63_0, f_63_1, f_63_2, f_63_3, f_63_4, f_63_5, f_63_6, f_63_7, f_63_8, f_63_9, f_63_10, ag_63, sz_63, by_63, ze_63, pl_63, es_63, u_64, ag_64, sz_64, by_64, ze_64, es_64, ↓AW_loop, hbX, htX, muxC, strmC, ptrC, c5', d1']
    first | exact ⟨rfl, sb, ids, ag, ug⟩ | exact ⟨sb, ids, ag, ug⟩
theorem got_q (m : MuxS) (kind id : Nat) (body : List UInt8) {h : AHeap} {p : Nat} {sb : Option Nat} {ids : List Nat} (a : MuxAt h p sb ids m) (hl : ids.length < 2 ^ 40) (hid : kind = 2 → openedE m id body = 0 → ∀ s, s ∈ m.streams → s.id < id) (hh : body.length < 2 ^ 40) (hk : kind < 2 ^ 40)
    (hm : m.window < 2 ^ 40) (hs : ∀ s, s ∈ m.streams → s.window < 2 ^ 40 ∧ s.room < 2 ^ 40 ∧ s.inn.length < 2 ^ 40) :
    FW cx 31 [ptrC p, .int .i64 kind, .int .i64 id, .string (str body)] h fun v h' => v = .int .i64 (gotE m kind id body : Nat) ∧ ∃ sb' ids', MuxAt h' p sb' ids' (gotM m kind id body) ∧ Upd h h' (foot p sb ids) (foot p sb' ids') := by
  unfold gotM
  by_cases k2 : kind = 2
  · have k2' : (kind : Int) = 2 := by omega
    have hg : gotE m kind id body = openedE m id body := by unfold gotE; rw [if_pos k2]
    rw [hg, if_pos k2]
    refine FW_f Try.func31 rfl (by decide +kernel) ?_
    simp -dsimp -implicitDefEqProofs (disch := first | omega | (simp only [stT, u_1, ag_1, sz_1, by_1, ze_1, es_1, u_2, ag_2, sz_2, by_2, ze_2, es_2, u_3, ag_3, sz_3, by_3, ze_3, es_3, u_4, ag_4, sz_4, by_4, ze_4, bo_4, es_4, u_5, ag_5, sz_5, by_5, ze_5, u8_5, es_5, u_9, ag_9, sz_9, by_9, ze_9, es_9, u_10, ag_10, sz_10, by_10, ze_10, es_10, u_26, ag_26, sz_26, by_26, ze_26, es_26, u_27, ag_27, sz_27, by_27, ze_27, es_27, u_53, ag_53, sz_53, by_53, ze_53, es_53, u_55, f_55_0, f_55_1, f_55_2, f_55_3, f_55_4, f_55_5, f_55_6, f_55_7, f_55_8, ag_55, sz_55, by_55, ze_55, pl_55, es_55, u_57, ag_57, sz_57, by_57, ze_57, es_57, u_63, f_63_0, f_63_1, f_63_2, f_63_3, f_63_4, f_63_5, f_63_6, f_63_7, f_63_8, f_63_9, f_63_10, ag_63, sz_63, by_63, ze_63, pl_63, es_63, u_64, ag_64, sz_64, by_64, ze_64, es_64]; done) | (simp only [List.append_assoc, List.cons_append, List.nil_append, pre_n, pre_c, pre_a, pre_g, pre_r]; done) | (simp only [List.length_set]; done) | (simp only [List.length_set]; omega) | assumption | decide +kernel | fail) only [↓RP, RQ, isConstA, Nat.reduceEqDiff, Nat.reduceLT, Nat.reduceAdd, Int.reduceNeg, Int.reduceLT, Int.reduceLE, Int.reduceToNat, Int.reduceEq, ↓reduceIte, ite_true, ite_false, Option.toList, Nat.reduceMul, Nat.reduceSub, Nat.reduceLeDiff, ne_eq, eq_self, u_1, ag_1, sz_1, by_1, ze_1, es_1, u_2, ag_2, sz_2, by_2, ze_2, es_2, u_3, ag_3, sz_3, by_3, ze_3, es_3, u_4, ag_4, sz_4, by_4, ze_4, bo_4, es_4, u_5, ag_5, sz_5, by_5, ze_5, u8_5, es_5, u_9, ag_9, sz_9, by_9, ze_9, es_9, u_10, ag_10, sz_10, by_10, ze_10, es_10, u_26, ag_26, sz_26, by_26, ze_26, es_26, u_27, ag_27, sz_27, by_27, ze_27, es_27, u_53, ag_53, sz_53, by_53, ze_53, es_53, u_55, f_55_0, f_55_1, f_55_2, f_55_3, f_55_4, f_55_5, f_55_6, f_55_7, f_55_8, ag_55, sz_55, by_55, ze_55, pl_55, es_55, u_57, ag_57, sz_57, by_57, ze_57, es_57, u_63, f_63_0, f_63_1, f_63_2, f_63_3, f_63_4, f_63_5, f_63_6, f_63_7, f_63_8, f_63_9, f_63_10, ag_63, sz_63, by_63, ze_63, pl_63, es_63, u_64, ag_64, sz_64, by_64, ze_64, es_64, ↓AW_loop, k2']
    refine FW.mono (opened_q m id body a hl (hid k2) hh) (fun v h2 hq => ?_)
    obtain ⟨rfl, sb2, ids2, a2, u2⟩ := hq
    simp -dsimp -implicitDefEqProofs (disch := first | omega | (simp only [stT, u_1, ag_1, sz_1, by_1, ze_1, es_1, u_2, ag_2, sz_2, by_2, ze_2, es_2, u_3, ag_3, sz_3, by_3, ze_3, es_3, u_4, ag_4, sz_4, by_4, ze_4, bo_4, es_4, u_5, ag_5, sz_5, by_5, ze_5, u8_5, es_5, u_9, ag_9, sz_9, by_9, ze_9, es_9, u_10, ag_10, sz_10, by_10, ze_10, es_10, u_26, ag_26, sz_26, by_26, ze_26, es_26, u_27, ag_27, sz_27, by_27, ze_27, es_27, u_53, ag_53, sz_53, by_53, ze_53, es_53, u_55, f_55_0, f_55_1, f_55_2, f_55_3, f_55_4, f_55_5, f_55_6, f_55_7, f_55_8, ag_55, sz_55, by_55, ze_55, pl_55, es_55, u_57, ag_57, sz_57, by_57, ze_57, es_57, u_63, f_63_0, f_63_1, f_63_2, f_63_3, f_63_4, f_63_5, f_63_6, f_63_7, f_63_8, f_63_9, f_63_10, ag_63, sz_63, by_63, ze_63, pl_63, es_63, u_64, ag_64, sz_64, by_64, ze_64, es_64]; done) | (simp only [List.append_assoc, List.cons_append, List.nil_append, pre_n, pre_c, pre_a, pre_g, pre_r]; done) | (simp only [List.length_set]; done) | (simp only [List.length_set]; omega) | assumption | decide +kernel | fail) only [↓RP, RQ, isConstA, Nat.reduceEqDiff, Nat.reduceLT, Nat.reduceAdd, Int.reduceNeg, Int.reduceLT, Int.reduceLE, Int.reduceToNat, Int.reduceEq, ↓reduceIte, ite_true, ite_false, Option.toList, Nat.reduceMul, Nat.reduceSub, Nat.reduceLeDiff, ne_eq, eq_self, u_1, ag_1, sz_1, by_1, ze_1, es_1, u_2, ag_2, sz_2, by_2, ze_2, es_2, u_3, ag_3, sz_3, by_3, ze_3, es_3, u_4, ag_4, sz_4, by_4, ze_4, bo_4, es_4, u_5, ag_5, sz_5, by_5, ze_5, u8_5, es_5, u_9, ag_9, sz_9, by_9, ze_9, es_9, u_10, ag_10, sz_10, by_10, ze_10, es_10, u_26, ag_26, sz_26, by_26, ze_26, es_26, u_27, ag_27, sz_27, by_27, ze_27, es_27, u_53, ag_53, sz_53, by_53, ze_53, es_53, u_55, f_55_0, f_55_1, f_55_2, f_55_3, f_55_4, f_55_5, f_55_6, f_55_7, f_55_8, ag_55, sz_55, by_55, ze_55, pl_55, es_55, u_57, ag_57, sz_57, by_57, ze_57, es_57, u_63, f_63_0, f_63_1, f_63_2, f_63_3, f_63_4, f_63_5, f_63_6, f_63_7, f_63_8, f_63_9, f_63_10, ag_63, sz_63, by_63, ze_63, pl_63, es_63, u_64, ag_64, sz_64, by_64, ze_64, es_64, ↓AW_loop]
    exact ⟨sb2, ids2, a2, u2⟩
  · have k2' : ¬ (kind : Int) = 2 := by omega
    rw [if_neg k2]
    by_cases hr : kind < 1 ∨ 5 < kind
    · have hg : gotE m kind id body = 1 := by unfold gotE; rw [if_neg k2, if_pos hr]
      rw [hg, if_pos (by decide)]
      refine FW_f Try.func31 rfl (by decide +kernel) ?_
      simp -dsimp -implicitDefEqProofs (disch := first | omega | (simp only [stT, u_1, ag_1, sz_1, by_1, ze_1, es_1, u_2, ag_2, sz_2, by_2, ze_2, es_2, u_3, ag_3, sz_3, by_3, ze_3, es_3, u_4, ag_4, sz_4, by_4, ze_4, bo_4, es_4, u_5, ag_5, sz_5, by_5, ze_5, u8_5, es_5, u_9, ag_9, sz_9, by_9, ze_9, es_9, u_10, ag_10, sz_10, by_10, ze_10, es_10, u_26, ag_26, sz_26, by_26, ze_26, es_26, u_27, ag_27, sz_27, by_27, ze_27, es_27, u_53, ag_53, sz_53, by_53, ze_53, es_53, u_55, f_55_0, f_55_1, f_55_2, f_55_3, f_55_4, f_55_5, f_55_6, f_55_7, f_55_8, ag_55, sz_55, by_55, ze_55, pl_55, es_55, u_57, ag_57, sz_57, by_57, ze_57, es_57, u_63, f_63_0, f_63_1, f_63_2, f_63_3, f_63_4, f_63_5, f_63_6, f_63_7, f_63_8, f_63_9, f_63_10, ag_63, sz_63, by_63, ze_63, pl_63, es_63, u_64, ag_64, sz_64, by_64, ze_64, es_64]; done) | (simp only [List.append_assoc, List.cons_append, List.nil_append, pre_n, pre_c, pre_a, pre_g, pre_r]; done) | (simp only [List.length_set]; done) | (simp only [List.length_set]; omega) | assumption | decide +kernel | fail) only [↓RP, RQ, isConstA, Nat.reduceEqDiff, Nat.reduceLT, Nat.reduceAdd, Int.reduceNeg, Int.reduceLT, Int.reduceLE, Int.reduceToNat, Int.reduceEq, ↓reduceIte, ite_true, ite_false, Option.toList, Nat.reduceMul, Nat.reduceSub, Nat.reduceLeDiff, ne_eq, eq_self, u_1, ag_1, sz_1, by_1, ze_1, es_1, u_2, ag_2, sz_2, by_2, ze_2, es_2, u_3, ag_3, sz_3, by_3, ze_3, es_3, u_4, ag_4, sz_4, by_4, ze_4, bo_4, es_4, u_5, ag_5, sz_5, by_5, ze_5, u8_5, es_5, u_9, ag_9, sz_9, by_9, ze_9, es_9, u_10, ag_10, sz_10, by_10, ze_10, es_10, u_26, ag_26, sz_26, by_26, ze_26, es_26, u_27, ag_27, sz_27, by_27, ze_27, es_27, u_53, ag_53, sz_53, by_53, ze_53, es_53, u_55, f_55_0, f_55_1, f_55_2, f_55_3, f_55_4, f_55_5, f_55_6, f_55_7, f_55_8, ag_55, sz_55, by_55, ze_55, pl_55, es_55, u_57, ag_57, sz_57, by_57, ze_57, es_57, u_63, f_63_0, f_63_1, f_63_2, f_63_3, f_63_4, f_63_5, f_63_6, f_63_7, f_63_8, f_63_9, f_63_10, ag_63, sz_63, by_63, ze_63, pl_63, es_63, u_64, ag_64, sz_64, by_64, ze_64, es_64, ↓AW_loop, k2']
      refine (find_q m id a hl).use' fun g => ?_
      have ag := a.app g
      have ug := Upd.app h g (foot p sb ids)
      by_cases k1 : kind < 1
      · have k1' : (kind : Int) < 1 := by omega
        simp -dsimp -implicitDefEqProofs (disch := first | omega | (simp only [stT, u_1, ag_1, sz_1, by_1, ze_1, es_1, u_2, ag_2, sz_2, by_2, ze_2, es_2, u_3, ag_3, sz_3, by_3, ze_3, es_3, u_4, ag_4, sz_4, by_4, ze_4, bo_4, es_4, u_5, ag_5, sz_5, by_5, ze_5, u8_5, es_5, u_9, ag_9, sz_9, by_9, ze_9, es_9, u_10, ag_10, sz_10, by_10, ze_10, es_10, u_26, ag_26, sz_26, by_26, ze_26, es_26, u_27, ag_27, sz_27, by_27, ze_27, es_27, u_53, ag_53, sz_53, by_53, ze_53, es_53, u_55, f_55_0, f_55_1, f_55_2, f_55_3, f_55_4, f_55_5, f_55_6, f_55_7, f_55_8, ag_55, sz_55, by_55, ze_55, pl_55, es_55, u_57, ag_57, sz_57, by_57, ze_57, es_57, u_63, f_63_0, f_63_1, f_63_2, f_63_3, f_63_4, f_63_5, f_63_6, f_63_7, f_63_8, f_63_9, f_63_10, ag_63, sz_63, by_63, ze_63, pl_63, es_63, u_64, ag_64, sz_64, by_64, ze_64, es_64]; done) | (simp only [List.append_assoc, List.cons_append, List.nil_append, pre_n, pre_c, pre_a, pre_g, pre_r]; done) | (simp only [List.length_set]; done) | (simp only [List.length_set]; omega) | assumption | decide +kernel | fail) only [↓RP, RQ, isConstA, Nat.reduceEqDiff, Nat.reduceLT, Nat.reduceAdd, Int.reduceNeg, Int.reduceLT, Int.reduceLE, Int.reduceToNat, Int.reduceEq, ↓reduceIte, ite_true, ite_false, Option.toList, Nat.reduceMul, Nat.reduceSub, Nat.reduceLeDiff, ne_eq, eq_self, u_1, ag_1, sz_1, by_1, ze_1, es_1, u_2, ag_2, sz_2, by_2, ze_2, es_2, u_3, ag_3, sz_3, by_3, ze_3, es_3, u_4, ag_4, sz_4, by_4, ze_4, bo_4, es_4, u_5, ag_5, sz_5, by_5, ze_5, u8_5, es_5, u_9, ag_9, sz_9, by_9, ze_9, es_9, u_10, ag_10, sz_10, by_10, ze_10, es_10, u_26, ag_26, sz_26, by_26, ze_26, es_26, u_27, ag_27, sz_27, by_27, ze_27, es_27, u_53, ag_53, sz_53, by_53, ze_53, es_53, u_55, f_55_0, f_55_1, f_55_2, f_55_3, f_55_4, f_55_5, f_55_6, f_55_7, f_55_8, ag_55, sz_55, by_55, ze_55, pl_55, es_55, u_57, ag_57, sz_57, by_57, ze_57, es_57, u_63, f_63_0, f_63_1, f_63_2, f_63_3, f_63_4, f_63_5, f_63_6, f_63_7, f_63_8, f_63_9, f_63_10, ag_63, sz_63, by_63, ze_63, pl_63, es_63, u_64, ag_64, sz_64, by_64, ze_64, es_64, ↓AW_loop, k1']
        exact ⟨sb, ids, ag, ug⟩
      · have k1' : ¬ (kind : Int) < 1 := by omega
        have k5' : (5 : Int) < kind := by omega
        simp -dsimp -implicitDefEqProofs (disch := first | omega | (simp only [stT, u_1, ag_1, sz_1, by_1, ze_1, es_1, u_2, ag_2, sz_2, by_2, ze_2, es_2, u_3, ag_3, sz_3, by_3, ze_3, es_3, u_4, ag_4, sz_4, by_4, ze_4, bo_4, es_4, u_5, ag_5, sz_5, by_5, ze_5, u8_5, es_5, u_9, ag_9, sz_9, by_9, ze_9, es_9, u_10, ag_10, sz_10, by_10, ze_10, es_10, u_26, ag_26, sz_26, by_26, ze_26, es_26, u_27, ag_27, sz_27, by_27, ze_27, es_27, u_53, ag_53, sz_53, by_53, ze_53, es_53, u_55, f_55_0, f_55_1, f_55_2, f_55_3, f_55_4, f_55_5, f_55_6, f_55_7, f_55_8, ag_55, sz_55, by_55, ze_55, pl_55, es_55, u_57, ag_57, sz_57, by_57, ze_57, es_57, u_63, f_63_0, f_63_1, f_63_2, f_63_3, f_63_4, f_63_5, f_63_6, f_63_7, f_63_8, f_63_9, f_63_10, ag_63, sz_63, by_63, ze_63, pl_63, es_63, u_64, ag_64, sz_64, by_64, ze_64, es_64]; done) | (simp only [List.append_assoc, List.cons_append, List.nil_append, pre_n, pre_c, pre_a, pre_g, pre_r]; done) | (simp only [List.length_set]; done) | (simp only [List.length_set]; omega) | assumption | decide +kernel | fail) only [↓RP, RQ, isConstA, Nat.reduceEqDiff, Nat.reduceLT, Nat.reduceAdd, Int.reduceNeg, Int.reduceLT, Int.reduceLE, Int.reduceToNat, Int.reduceEq, ↓reduceIte, ite_true, ite_false, Option.toList, Nat.reduceMul, Nat.reduceSub, Nat.reduceLeDiff, ne_eq, eq_self, u_1, ag_1, sz_1, by_1, ze_1, es_1, u_2, ag_2, sz_2, by_2, ze_2, es_2, u_3, ag_3, sz_3, by_3, ze_3, es_3, u_4, ag_4, sz_4, by_4, ze_4, bo_4, es_4, u_5, ag_5, sz_5, by_5, ze_5, u8_5, es_5, u_9, ag_9, sz_9, by_9, ze_9, es_9, u_10, ag_10, sz_10, by_10, ze_10, es_10, u_26, ag_26, sz_26, by_26, ze_26, es_26, u_27, ag_27, sz_27, by_27, ze_27, es_27, u_53, ag_53, sz_53, by_53, ze_53, es_53, u_55, f_55_0, f_55_1, f_55_2, f_55_3, f_55_4, f_55_5, f_55_6, f_55_7, f_55_8, ag_55, sz_55, by_55, ze_55, pl_55, es_55, u_57, ag_57, sz_57, by_57, ze_57, es_57, u_63, f_63_0, f_63_1, f_63_2, f_63_3, f_63_4, f_63_5, f_63_6, f_63_7, f_63_8, f_63_9, f_63_10, ag_63, sz_63, by_63, ze_63, pl_63, es_63, u_64, ag_64, sz_64, by_64, ze_64, es_64, ↓AW_loop, k1', k5']
        exact ⟨sb, ids, ag, ug⟩
    · rcases find_spec m id with ⟨e, _⟩ | ⟨i, s, e, hsi, _⟩
      · have hg : gotE m kind id body = 4 := by unfold gotE; rw [if_neg k2, if_neg hr, e, if_pos (by decide)]
        rw [hg, if_pos (by decide)]
        refine FW_f Try.func31 rfl (by decide +kernel) ?_
        simp -dsimp -implicitDefEqProofs (disch := first | omega | (simp only [stT, u_1, ag_1, sz_1, by_1, ze_1, es_1, u_2, ag_2, sz_2, by_2, ze_2, es_2, u_3, ag_3, sz_3, by_3, ze_3, es_3, u_4, ag_4, sz_4, by_4, ze_4, bo_4, es_4, u_5, ag_5, sz_5, by_5, ze_5, u8_5, es_5, u_9, ag_9, sz_9, by_9, ze_9, es_9, u_10, ag_10, sz_10, by_10, ze_10, es_10, u_26, ag_26, sz_26, by_26, ze_26, es_26, u_27, ag_27, sz_27, by_27, ze_27, es_27, u_53, ag_53, sz_53, by_53, ze_53, es_53, u_55, f_55_0, f_55_1, f_55_2, f_55_3, f_55_4, f_55_5, f_55_6, f_55_7, f_55_8, ag_55, sz_55, by_55, ze_55, pl_55, es_55, u_57, ag_57, sz_57, by_57, ze_57, es_57, u_63, f_63_0, f_63_1, f_63_2, f_63_3, f_63_4, f_63_5, f_63_6, f_63_7, f_63_8, f_63_9, f_63_10, ag_63, sz_63, by_63, ze_63, pl_63, es_63, u_64, ag_64, sz_64, by_64, ze_64, es_64]; done) | (simp only [List.append_assoc, List.cons_append, List.nil_append, pre_n, pre_c, pre_a, pre_g, pre_r]; done) | (simp only [List.length_set]; done) | (simp only [List.length_set]; omega) | assumption | decide +kernel | fail) only [↓RP, RQ, isConstA, Nat.reduceEqDiff, Nat.reduceLT, Nat.reduceAdd, Int.reduceNeg, Int.reduceLT, Int.reduceLE, Int.reduceToNat, Int.reduceEq, ↓reduceIte, ite_true, ite_false, Option.toList, Nat.reduceMul, Nat.reduceSub, Nat.reduceLeDiff, ne_eq, eq_self, u_1, ag_1, sz_1, by_1, ze_1, es_1, u_2, ag_2, sz_2, by_2, ze_2, es_2, u_3, ag_3, sz_3, by_3, ze_3, es_3, u_4, ag_4, sz_4, by_4, ze_4, bo_4, es_4, u_5, ag_5, sz_5, by_5, ze_5, u8_5, es_5, u_9, ag_9, sz_9, by_9, ze_9, es_9, u_10, ag_10, sz_10, by_10, ze_10, es_10, u_26, ag_26, sz_26, by_26, ze_26, es_26, u_27, ag_27, sz_27, by_27, ze_27, es_27, u_53, ag_53, sz_53, by_53, ze_53, es_53, u_55, f_55_0, f_55_1, f_55_2, f_55_3, f_55_4, f_55_5, f_55_6, f_55_7, f_55_8, ag_55, sz_55, by_55, ze_55, pl_55, es_55, u_57, ag_57, sz_57, by_57, ze_57, es_57, u_63, f_63_0, f_63_1, f_63_2, f_63_3, f_63_4, f_63_5, f_63_6, f_63_7, f_63_8, f_63_9, f_63_10, ag_63, sz_63, by_63, ze_63, pl_63, es_63, u_64, ag_64, sz_64, by_64, ze_64, es_64, ↓AW_loop, k2']
        refine (find_q m id a hl).use' fun g => ?_
        have ag := a.app g
        have ug := Upd.app h g (foot p sb ids)
        have k1' : ¬ (kind : Int) < 1 := by omega
        have k5' : ¬ (5 : Int) < kind := by omega
        rw [e]
        simp -dsimp -implicitDefEqProofs (disch := first | omega | (simp only [stT, u_1, ag_1, sz_1, by_1, ze_1, es_1, u_2, ag_2, sz_2, by_2, ze_2, es_2, u_3, ag_3, sz_3, by_3, ze_3, es_3, u_4, ag_4, sz_4, by_4, ze_4, bo_4, es_4, u_5, ag_5, sz_5, by_5, ze_5, u8_5, es_5, u_9, ag_9, sz_9, by_9, ze_9, es_9, u_10, ag_10, sz_10, by_10, ze_10, es_10, u_26, ag_26, sz_26, by_26, ze_26, es_26, u_27, ag_27, sz_27, by_27, ze_27, es_27, u_53, ag_53, sz_53, by_53, ze_53, es_53, u_55, f_55_0, f_55_1, f_55_2, f_55_3, f_55_4, f_55_5, f_55_6, f_55_7, f_55_8, ag_55, sz_55, by_55, ze_55, pl_55, es_55, u_57, ag_57, sz_57, by_57, ze_57, es_57, u_63, f_63_0, f_63_1, f_63_2, f_63_3, f_63_4, f_63_5, f_63_6, f_63_7, f_63_8, f_63_9, f_63_10, ag_63, sz_63, by_63, ze_63, pl_63, es_63, u_64, ag_64, sz_64, by_64, ze_64, es_64]; done) | (simp only [List.append_assoc, List.cons_append, List.nil_append, pre_n, pre_c, pre_a, pre_g, pre_r]; done) | (simp only [List.length_set]; done) | (simp only [List.length_set]; omega) | assumption | decide +kernel | fail) only [↓RP, RQ, isConstA, Nat.reduceEqDiff, Nat.reduceLT, Nat.reduceAdd, Int.reduceNeg, Int.reduceLT, Int.reduceLE, Int.reduceToNat, Int.reduceEq, ↓reduceIte, ite_true, ite_false, Option.toList, Nat.reduceMul, Nat.reduceSub, Nat.reduceLeDiff, ne_eq, eq_self, u_1, ag_1, sz_1, by_1, ze_1, es_1, u_2, ag_2, sz_2, by_2, ze_2, es_2, u_3, ag_3, sz_3, by_3, ze_3, es_3, u_4, ag_4, sz_4, by_4, ze_4, bo_4, es_4, u_5, ag_5, sz_5, by_5, ze_5, u8_5, es_5, u_9, ag_9, sz_9, by_9, ze_9, es_9, u_10, ag_10, sz_10, by_10, ze_10, es_10, u_26, ag_26, sz_26, by_26, ze_26, es_26, u_27, ag_27, sz_27, by_27, ze_27, es_27, u_53, ag_53, sz_53, by_53, ze_53, es_53, u_55, f_55_0, f_55_1, f_55_2, f_55_3, f_55_4, f_55_5, f_55_6, f_55_7, f_55_8, ag_55, sz_55, by_55, ze_55, pl_55, es_55, u_57, ag_57, sz_57, by_57, ze_57, es_57, u_63, f_63_0, f_63_1, f_63_2, f_63_3, f_63_4, f_63_5, f_63_6, f_63_7, f_63_8, f_63_9, f_63_10, ag_63, sz_63, by_63, ze_63, pl_63, es_63, u_64, ag_64, sz_64, by_64, ze_64, es_64, ↓AW_loop, k1', k5', findV]
        exact ⟨rfl, sb, ids, ag, ug⟩
      · have hg : gotE m kind id body = bodyE m s kind body := by unfold gotE; rw [if_neg k2, if_neg hr, e, if_neg (by omega), Int.toNat_natCast, hsi]
        rw [hg, e, Int.toNat_natCast, hsi]
        have h4 : kind = 1 ∨ kind = 3 ∨ kind = 4 ∨ kind = 5 := by omega
        rcases h4 with k | k | k | k
        · exact got1_q m kind id body i s a hl hh hm hs k e hsi
        · exact got3_q m kind id body i s a hl hh hm hs k e hsi
        · exact got4_q m kind id body i s a hl hh hm hs k e hsi
        · exact got5_q m kind id body i s a hl hh hm hs k e hsi
end Go.Abs
/- Mx11: the walk of In. Conditions: none. -/
set_option maxRecDepth 100000
set_option linter.unusedSimpArgs false
set_option linter.unusedVariables false
namespace Go.Abs
open Go.Proofs
def byteN (l : List UInt8) (i : Nat) : Nat := ((l[i]?).getD 0).toNat
theorem byteN_lt (l : List UInt8) (i : Nat) : byteN l i < 256 := UInt8.toNat_lt _
/-- What is received, frame for frame. -/
def inR : Nat → MuxS → Nat × MuxS
  | 0, m => (0, m)
  | k + 1, m =>
    if m.got.length < 5 then (0, m)
    else if 512 < byteN m.got 3 * 256 + byteN m.got 4 then (3, { m with broken := true, got := [] })
    else if m.got.length < 5 + (byteN m.got 3 * 256 + byteN m.got 4) then (0, m)
    else if gotE { m with got := m.got.drop (5 + (byteN m.got 3 * 256 + byteN m.got 4)) } (byteN m.got 0) (byteN m.got 1 * 256 + byteN m.got 2) ((m.got.drop 5).take (byteN m.got 3 * 256 + byteN m.got 4)) ≠ 0 then
      (gotE { m with got := m.got.drop (5 + (byteN m.got 3 * 256 + byteN m.got 4)) } (byteN m.got 0) (byteN m.got 1 * 256 + byteN m.got 2) ((m.got.drop 5).take (byteN m.got 3 * 256 + byteN m.got 4)),
       { gotM { m with got := m.got.drop (5 + (byteN m.got 3 * 256 + byteN m.got 4)) } (byteN m.got 0) (byteN m.got 1 * 256 + byteN m.got 2) ((m.got.drop 5).take (byteN m.got 3 * 256 + byteN m.got 4)) with broken := true, got := [] })
    else inR k (gotM { m with got := m.got.drop (5 + (byteN m.got 3 * 256 + byteN m.got 4)) } (byteN m.got 0) (byteN m.got 1 * 256 + byteN m.got 2) ((m.got.drop 5).take (byteN m.got 3 * 256 + byteN m.got 4)))
def inS (m : MuxS) (text : List UInt8) : Nat × MuxS :=
  if m.broken = true then (7, m) else if 4096 < text.length then (2, m) else inR (m.got.length + text.length) { m with got := m.got ++ text }
theorem gotM_got (m : MuxS) (kind id : Nat) (body : List UInt8) : (gotM m kind id body).got = m.got ∧ (gotM m kind id body).broken = m.broken := by
  unfold gotM openedM
  repeat' split
  all_goals exact ⟨rfl, rfl⟩
/-- What holds of an end while it receives. -/
structure InOk (I : MuxS → Prop) : Prop where
  safe : ∀ m, I m → ∀ id body, openedE m id body = 0 → ∀ s, s ∈ m.streams → s.id < id
  bnd : ∀ m, I m → m.streams.length < 2 ^ 40 ∧ m.window < 2 ^ 40 ∧ m.got.length < 2 ^ 40 ∧ ∀ s, s ∈ m.streams → s.window < 2 ^ 40 ∧ s.room < 2 ^ 40 ∧ s.inn.length < 2 ^ 40
  cut : ∀ m g, I m → g.length ≤ m.got.length → I { m with got := g }
  step : ∀ m g kind id body, I m → g.length + body.length ≤ m.got.length → I (gotM { m with got := g } kind id body)
/-- The same, said of the frame that is there. -/
structure InOk2 (I : MuxS → Prop) : Prop where
  safe : ∀ m, I m → 5 + (byteN m.got 3 * 256 + byteN m.got 4) ≤ m.got.length → byteN m.got 0 = 2 → ∀ body, openedE m (byteN m.got 1 * 256 + byteN m.got 2) body = 0 → ∀ s, s ∈ m.streams → s.id < byteN m.got 1 * 256 + byteN m.got 2
  bnd : ∀ m, I m → m.streams.length < 2 ^ 40 ∧ m.window < 2 ^ 40 ∧ m.got.length < 2 ^ 40 ∧ ∀ s, s ∈ m.streams → s.window < 2 ^ 40 ∧ s.room < 2 ^ 40 ∧ s.inn.length < 2 ^ 40
  step : ∀ m, I m → 5 + (byteN m.got 3 * 256 + byteN m.got 4) ≤ m.got.length → gotE { m with got := m.got.drop (5 + (byteN m.got 3 * 256 + byteN m.got 4)) } (byteN m.got 0) (byteN m.got 1 * 256 + byteN m.got 2) ((m.got.drop 5).take (byteN m.got 3 * 256 + byteN m.got 4)) = 0 →
    I (gotM { m with got := m.got.drop (5 + (byteN m.got 3 * 256 + byteN m.got 4)) } (byteN m.got 0) (byteN m.got 1 * 256 + byteN m.got 2) ((m.got.drop 5).take (byteN m.got 3 * 256 + byteN m.got 4)))
theorem InOk.two {I : MuxS → Prop} (h : InOk I) : InOk2 I where
  safe m hm _ _ body he := h.safe m hm _ body he
  bnd := h.bnd
  step m hm hl _ := h.step m _ _ _ _ hm (by rw [List.length_drop, List.length_take, List.length_drop]; omega)
theorem in_q2 (I : MuxS → Prop) (hI : InOk2 I) (m : MuxS) (text : List UInt8) {h : AHeap} {p : Nat} {sb : Option Nat} {ids : List Nat} (a : MuxAt h p sb ids m) (ht : text.length < 2 ^ 40) (hg : m.broken = false → m.got.length < 2 ^ 40) (hi : m.broken = false → text.length ≤ 4096 → I { m with got := m.got ++ text }) :
    FW cx 17 [ptrC p, .string (str text)] h fun v h' => v = .int .i64 ((inS m text).1 : Nat) ∧ ∃ sb' ids', MuxAt h' p sb' ids' (inS m text).2 ∧ Upd h h' (foot p sb ids) (foot p sb' ids') := by
  unfold ptrC inS
  refine FW_f Try.func17 rfl (by decide +kernel) ?_
  have htop := a.top
  by_cases hbt : m.broken = true
  · have hbr := hbt
    rw [if_pos hbt]
    simp -dsimp -implicitDefEqProofs (disch := first | omega | (simp only [stT, u_2, ag_2, sz_2, by_2, ze_2, es_2, u_3, ag_3, sz_3, by_3, ze_3, es_3, u_4, ag_4, sz_4, by_4, ze_4, bo_4, es_4, u_5, ag_5, sz_5, by_5, ze_5, u8_5, es_5, u_6, ag_6, sz_6, by_6, ze_6, u8_6, es_6, u_7, f_7_0, f_7_1, f_7_2, f_7_3, ag_7, sz_7, by_7, ze_7, pl_7, es_7, u_8, f_8_0, f_8_1, f_8_2, f_8_3, ag_8, sz_8, by_8, ze_8, pl_8, es_8, u_9, ag_9, sz_9, by_9, ze_9, es_9, u_26, ag_26, sz_26, by_26, ze_26, es_26, u_27, ag_27, sz_27, by_27, ze_27, es_27, u_53, ag_53, sz_53, by_53, ze_53, es_53, u_55, f_55_0, f_55_1, f_55_2, f_55_3, f_55_4, f_55_5, f_55_6, f_55_7, f_55_8, ag_55, sz_55, by_55, ze_55, pl_55, es_55, u_57, ag_57, sz_57, by_57, ze_57, es_57, u_64, ag_64, sz_64, by_64, ze_64, es_64]; done) | (simp only [List.append_assoc, List.cons_append, List.nil_append, pre_n, pre_c, pre_a, pre_g, pre_r]; done) | (simp only [List.length_set]; done) | (simp only [List.length_set]; omega) | assumption | decide +kernel | fail) only [↓RP, RQ, isConstA, Nat.reduceEqDiff, Nat.reduceLT, Nat.reduceAdd, Int.reduceNeg, Int.reduceLT, Int.reduceLE, Int.reduceToNat, Int.reduceEq, ↓reduceIte, ite_true, ite_false, Option.toList, Nat.reduceMul, Nat.reduceSub, Nat.reduceLeDiff, ne_eq, eq_self, u_2, ag_2, sz_2, by_2, ze_2, es_2, u_3, ag_3, sz_3, by_3, ze_3, es_3, u_4, ag_4, sz_4, by_4, ze_4, bo_4, es_4, u_5, ag_5, sz_5, by_5, ze_5, u8_5, es_5, u_6, ag_6, sz_6, by_6, ze_6, u8_6, es_6, u_7, f_7_0, f_7_1, f_7_2, f_7_3, ag_7, sz_7, by_7, ze_7, pl_7, es_7, u_8, f_8_0, f_8_1, f_8_2, f_8_3, ag_8, sz_8, by_8, ze_8, pl_8, es_8, u_9, ag_9, sz_9, by_9, ze_9, es_9, u_26, ag_26, sz_26, by_26, ze_26, es_26, u_27, ag_27, sz_27, by_27, ze_27, es_27, u_53, ag_53, sz_53, by_53, ze_53, es_53, u_55, f_55_0, f_55_1, f_55_2, f_55_3, f_55_4, f_55_5, f_55_6, f_55_7, f_55_8, ag_55, sz_55, by_55, ze_55, pl_55, es_55, u_57, ag_57, sz_57, by_57, ze_57, es_57, u_64, ag_64, sz_64, by_64, ze_64, es_64, ↓AW_loop, htop, muxC, hbr]
    exact ⟨rfl, sb, ids, a, Upd.refl _ _⟩
  · have hbr : m.broken = false := by simpa using hbt
    have hg := hg hbr
    rw [if_neg hbt]
    by_cases c1 : 4096 < text.length
    · have c1' : (4096 : Int) < text.length := by omega
      rw [if_pos c1]
      simp -dsimp -implicitDefEqProofs (disch := first | omega | (simp only [stT, u_2, ag_2, sz_2, by_2, ze_2, es_2, u_3, ag_3, sz_3, by_3, ze_3, es_3, u_4, ag_4, sz_4, by_4, ze_4, bo_4, es_4, u_5, ag_5, sz_5, by_5, ze_5, u8_5, es_5, u_6, ag_6, sz_6, by_6, ze_6, u8_6, es_6, u_7, f_7_0, f_7_1, f_7_2, f_7_3, ag_7, sz_7, by_7, ze_7, pl_7, es_7, u_8, f_8_0, f_8_1, f_8_2, f_8_3, ag_8, sz_8, by_8, ze_8, pl_8, es_8, u_9, ag_9, sz_9, by_9, ze_9, es_9, u_26, ag_26, sz_26, by_26, ze_26, es_26, u_27, ag_27, sz_27, by_27, ze_27, es_27, u_53, ag_53, sz_53, by_53, ze_53, es_53, u_55, f_55_0, f_55_1, f_55_2, f_55_3, f_55_4, f_55_5, f_55_6, f_55_7, f_55_8, ag_55, sz_55, by_55, ze_55, pl_55, es_55, u_57, ag_57, sz_57, by_57, ze_57, es_57, u_64, ag_64, sz_64, by_64, ze_64, es_64]; done) | (simp only [List.append_assoc, List.cons_append, List.nil_append, pre_n, pre_c, pre_a, pre_g, pre_r]; done) | (simp only [List.length_set]; done) | (simp only [List.length_set]; omega) | assumption | decide +kernel | fail) only [↓RP, RQ, isConstA, Nat.reduceEqDiff, Nat.reduceLT, Nat.reduceAdd, Int.reduceNeg, Int.reduceLT, Int.reduceLE, Int.reduceToNat, Int.reduceEq, ↓reduceIte, ite_true, ite_false, Option.toList, Nat.reduceMul, Nat.reduceSub, Nat.reduceLeDiff, ne_eq, eq_self, u_2, ag_2, sz_2, by_2, ze_2, es_2, u_3, ag_3, sz_3, by_3, ze_3, es_3, u_4, ag_4, sz_4, by_4, ze_4, bo_4, es_4, u_5, ag_5, sz_5, by_5, ze_5, u8_5, es_5, u_6, ag_6, sz_6, by_6, ze_6, u8_6, es_6, u_7, f_7_0, f_7_1, f_7_2, f_7_3, ag_7, sz_7, by_7, ze_7, pl_7, es_7, u_8, f_8_0, f_8_1, f_8_2, f_8_3, ag_8, sz_8, by_8, ze_8, pl_8, es_8, u_9, ag_9, sz_9, by_9, ze_9, es_9, u_26, ag_26, sz_26, by_26, ze_26, es_26, u_27, ag_27, sz_27, by_27, ze_27, es_27, u_53, ag_53, sz_53, by_53, ze_53, es_53, u_55, f_55_0, f_55_1, f_55_2, f_55_3, f_55_4, f_55_5, f_55_6, f_55_7, f_55_8, ag_55, sz_55, by_55, ze_55, pl_55, es_55, u_57, ag_57, sz_57, by_57, ze_57, es_57, u_64, ag_64, sz_64, by_64, ze_64, es_64, ↓AW_loop, htop, muxC, hbr, c1']
      exact ⟨rfl, sb, ids, a, Upd.refl _ _⟩
    · have c1' : ¬ (4096 : Int) < text.length := by omega
      rw [if_neg c1]
      have hset : ∀ X, blkA (h.set p (some (.cells X))) p = some X := fun X => blk_setB0 a.lt
      have i1 := hi hbr (by omega)
      have hF : m.got.length + text.length = (m.got ++ text).length := by rw [List.length_append]
      rw [hF]
      obtain ⟨M0, hM0⟩ : ∃ M0 : MuxS, { m with got := m.got ++ text } = M0 := ⟨_, rfl⟩
      have a1 := a.setTop (m' := M0) (by rw [← hM0])
      have hc0 : ∀ x, muxC M0 x = [.bool m.first, .int .i64 m.window, .int .i64 m.next, x, .string (str m.control), .string (str m.ready), .int .i64 m.turn, .string (str (m.got ++ text)), .bool false] := by
        intro x; rw [← hM0]; simp only [muxC, hbr]
      rw [hc0] at a1
      have hb0 : M0.broken = false := by rw [← hM0]; exact hbr
      have hgl : M0.got = m.got ++ text := by rw [← hM0]
      rw [hM0] at i1 ⊢
      obtain ⟨R, hR⟩ : ∃ R, inR (m.got ++ text).length M0 = R := ⟨_, rfl⟩
      rw [hR]
      simp -dsimp -implicitDefEqProofs (disch := first | omega | (simp only [stT, u_2, ag_2, sz_2, by_2, ze_2, es_2, u_3, ag_3, sz_3, by_3, ze_3, es_3, u_4, ag_4, sz_4, by_4, ze_4, bo_4, es_4, u_5, ag_5, sz_5, by_5, ze_5, u8_5, es_5, u_6, ag_6, sz_6, by_6, ze_6, u8_6, es_6, u_7, f_7_0, f_7_1, f_7_2, f_7_3, ag_7, sz_7, by_7, ze_7, pl_7, es_7, u_8, f_8_0, f_8_1, f_8_2, f_8_3, ag_8, sz_8, by_8, ze_8, pl_8, es_8, u_9, ag_9, sz_9, by_9, ze_9, es_9, u_26, ag_26, sz_26, by_26, ze_26, es_26, u_27, ag_27, sz_27, by_27, ze_27, es_27, u_53, ag_53, sz_53, by_53, ze_53, es_53, u_55, f_55_0, f_55_1, f_55_2, f_55_3, f_55_4, f_55_5, f_55_6, f_55_7, f_55_8, ag_55, sz_55, by_55, ze_55, pl_55, es_55, u_57, ag_57, sz_57, by_57, ze_57, es_57, u_64, ag_64, sz_64, by_64, ze_64, es_64]; done) | (simp only [List.append_assoc, List.cons_append, List.nil_append, pre_n, pre_c, pre_a, pre_g, pre_r]; done) | (simp only [List.length_set]; done) | (simp only [List.length_set]; omega) | assumption | decide +kernel | fail) only [↓RP, RQ, isConstA, Nat.reduceEqDiff, Nat.reduceLT, Nat.reduceAdd, Int.reduceNeg, Int.reduceLT, Int.reduceLE, Int.reduceToNat, Int.reduceEq, ↓reduceIte, ite_true, ite_false, Option.toList, Nat.reduceMul, Nat.reduceSub, Nat.reduceLeDiff, ne_eq, eq_self, u_2, ag_2, sz_2, by_2, ze_2, es_2, u_3, ag_3, sz_3, by_3, ze_3, es_3, u_4, ag_4, sz_4, by_4, ze_4, bo_4, es_4, u_5, ag_5, sz_5, by_5, ze_5, u8_5, es_5, u_6, ag_6, sz_6, by_6, ze_6, u8_6, es_6, u_7, f_7_0, f_7_1, f_7_2, f_7_3, ag_7, sz_7, by_7, ze_7, pl_7, es_7, u_8, f_8_0, f_8_1, f_8_2, f_8_3, ag_8, sz_8, by_8, ze_8, pl_8, es_8, u_9, ag_9, sz_9, by_9, ze_9, es_9, u_26, ag_26, sz_26, by_26, ze_26, es_26, u_27, ag_27, sz_27, by_27, ze_27, es_27, u_53, ag_53, sz_53, by_53, ze_53, es_53, u_55, f_55_0, f_55_1, f_55_2, f_55_3, f_55_4, f_55_5, f_55_6, f_55_7, f_55_8, ag_55, sz_55, by_55, ze_55, pl_55, es_55, u_57, ag_57, sz_57, by_57, ze_57, es_57, u_64, ag_64, sz_64, by_64, ze_64, es_64, ↓AW_loop, htop, muxC, hbr, c1', hset]
      refine ⟨by omega, ?_⟩
      have u1 := (Upd.refl h (foot p sb ids)).set (b := p) (v := some (.cells ⟨[.bool m.first, .int .i64 m.window, .int .i64 m.next, .slice (slA sb) ids.length ids.length, .string (str m.control), .string (str m.ready), .int .i64 m.turn, .string (str (m.got ++ text)), .bool false], 9, false⟩)) (by simp [foot])
      refine LW_rule (fun n fr h' => ∃ (m' : MuxS) (k' : Nat) (sb' : Option Nat) (ids' : List Nat), n = m'.got.length ∧ m'.got.length ≤ k' ∧ m'.broken = false ∧ I m' ∧ fget fr 0 = .pointer (some ⟨p, 0, none⟩) ∧ MuxAt h' p sb' ids' m' ∧ Upd h h' (foot p sb ids) (foot p sb' ids') ∧
          inR k' m' = R) ?_ (m.got ++ text).length _ _ ⟨M0, (m.got ++ text).length, sb, ids, by rw [hgl], by rw [hgl]; exact Nat.le_refl _, hb0, i1, ?_⟩
      · rintro n fr h' ⟨m', k', sb', ids', hn, hk', hb, im, f0, am, um, hin⟩
        have htp := am.top
        obtain ⟨g1, g2, g3, g4⟩ := hI.bnd m' im
        have hill := am.len
        by_cases l5 : m'.got.length < 5
        · have l5' : ¬ (5 : Int) ≤ m'.got.length := by omega
          have he : inR k' m' = (0, m') := by
            cases k' with
            | zero => rfl
            | succ k => rw [inR, if_pos l5]
          rw [he] at hin
          subst hin
          simp -dsimp -implicitDefEqProofs (disch := first | omega | (simp only [stT, u_2, ag_2, sz_2, by_2, ze_2, es_2, u_3, ag_3, sz_3, by_3, ze_3, es_3, u_4, ag_4, sz_4, by_4, ze_4, bo_4, es_4, u_5, ag_5, sz_5, by_5, ze_5, u8_5, es_5, u_6, ag_6, sz_6, by_6, ze_6, u8_6, es_6, u_7, f_7_0, f_7_1, f_7_2, f_7_3, ag_7, sz_7, by_7, ze_7, pl_7, es_7, u_8, f_8_0, f_8_1, f_8_2, f_8_3, ag_8, sz_8, by_8, ze_8, pl_8, es_8, u_9, ag_9, sz_9, by_9, ze_9, es_9, u_26, ag_26, sz_26, by_26, ze_26, es_26, u_27, ag_27, sz_27, by_27, ze_27, es_27, u_53, ag_53, sz_53, by_53, ze_53, es_53, u_55, f_55_0, f_55_1, f_55_2, f_55_3, f_55_4, f_55_5, f_55_6, f_55_7, f_55_8, ag_55, sz_55, by_55, ze_55, pl_55, es_55, u_57, ag_57, sz_57, by_57, ze_57, es_57, u_64, ag_64, sz_64, by_64, ze_64, es_64]; done) | (simp only [List.append_assoc, List.cons_append, List.nil_append, pre_n, pre_c, pre_a, pre_g, pre_r]; done) | (simp only [List.length_set]; done) | (simp only [List.length_set]; omega) | assumption | decide +kernel | fail) only [↓RP, RQ, isConstA, Nat.reduceEqDiff, Nat.reduceLT, Nat.reduceAdd, Int.reduceNeg, Int.reduceLT, Int.reduceLE, Int.reduceToNat, Int.reduceEq, ↓reduceIte, ite_true, ite_false, Option.toList, Nat.reduceMul, Nat.reduceSub, Nat.reduceLeDiff, ne_eq, eq_self, u_2, ag_2, sz_2, by_2, ze_2, es_2, u_3, ag_3, sz_3, by_3, ze_3, es_3, u_4, ag_4, sz_4, by_4, ze_4, bo_4, es_4, u_5, ag_5, sz_5, by_5, ze_5, u8_5, es_5, u_6, ag_6, sz_6, by_6, ze_6, u8_6, es_6, u_7, f_7_0, f_7_1, f_7_2, f_7_3, ag_7, sz_7, by_7, ze_7, pl_7, es_7, u_8, f_8_0, f_8_1, f_8_2, f_8_3, ag_8, sz_8, by_8, ze_8, pl_8, es_8, u_9, ag_9, sz_9, by_9, ze_9, es_9, u_26, ag_26, sz_26, by_26, ze_26, es_26, u_27, ag_27, sz_27, by_27, ze_27, es_27, u_53, ag_53, sz_53, by_53, ze_53, es_53, u_55, f_55_0, f_55_1, f_55_2, f_55_3, f_55_4, f_55_5, f_55_6, f_55_7, f_55_8, ag_55, sz_55, by_55, ze_55, pl_55, es_55, u_57, ag_57, sz_57, by_57, ze_57, es_57, u_64, ag_64, sz_64, by_64, ze_64, es_64, ↓AW_loop, htp, muxC, f0, hb, l5']
          exact ⟨sb', ids', am, um⟩
        · have l5' : (5 : Int) ≤ m'.got.length := by omega
          obtain ⟨k, rfl⟩ : ∃ k, k' = k + 1 := ⟨k' - 1, by omega⟩
          rw [inR, if_neg l5] at hin
          have hsf := hI.safe m' im
          have hst := hI.step m' im
          have b0 := byteN_lt m'.got 0
          have b1 := byteN_lt m'.got 1
          have b2 := byteN_lt m'.got 2
          have b3 := byteN_lt m'.got 3
          have b4 := byteN_lt m'.got 4
          obtain ⟨x0, hx0⟩ : ∃ x, byteN m'.got 0 = x := ⟨_, rfl⟩
          obtain ⟨x1, hx1⟩ : ∃ x, byteN m'.got 1 = x := ⟨_, rfl⟩
          obtain ⟨x2, hx2⟩ : ∃ x, byteN m'.got 2 = x := ⟨_, rfl⟩
          obtain ⟨x3, hx3⟩ : ∃ x, byteN m'.got 3 = x := ⟨_, rfl⟩
          obtain ⟨x4, hx4⟩ : ∃ x, byteN m'.got 4 = x := ⟨_, rfl⟩
          rw [hx0, hx1, hx2, hx3, hx4] at hin hsf hst
          rw [hx0] at b0; rw [hx1] at b1; rw [hx2] at b2; rw [hx3] at b3; rw [hx4] at b4
          unfold byteN at hx0 hx1 hx2 hx3 hx4
          obtain ⟨nn, hnn⟩ : ∃ x, x3 * 256 + x4 = x := ⟨_, rfl⟩
          obtain ⟨ii, hii⟩ : ∃ x, x1 * 256 + x2 = x := ⟨_, rfl⟩
          have hor1 : x1 * 256 ||| x2 = ii := by rw [or_256 b2]; exact hii
          have hor2 : x3 * 256 ||| x4 = nn := by rw [or_256 b4]; exact hnn
          rw [hnn, hii] at hin hsf hst
          have q1 : (1 : Int) < m'.got.length := by omega
          have q2 : (2 : Int) < m'.got.length := by omega
          have q3 : (3 : Int) < m'.got.length := by omega
          have q4 : (4 : Int) < m'.got.length := by omega
          have q0 : (0 : Int) < m'.got.length := by omega
          by_cases n5 : 512 < nn
          · have n5' : (512 : Int) < nn := by omega
            rw [if_pos n5] at hin
            have hset : ∀ X, blkA (h'.set p (some (.cells X))) p = some X := fun X => blk_setB0 am.lt
            simp -dsimp -implicitDefEqProofs (disch := first | omega | (simp only [stT, u_2, ag_2, sz_2, by_2, ze_2, es_2, u_3, ag_3, sz_3, by_3, ze_3, es_3, u_4, ag_4, sz_4, by_4, ze_4, bo_4, es_4, u_5, ag_5, sz_5, by_5, ze_5, u8_5, es_5, u_6, ag_6, sz_6, by_6, ze_6, u8_6, es_6, u_7, f_7_0, f_7_1, f_7_2, f_7_3, ag_7, sz_7, by_7, ze_7, pl_7, es_7, u_8, f_8_0, f_8_1, f_8_2, f_8_3, ag_8, sz_8, by_8, ze_8, pl_8, es_8, u_9, ag_9, sz_9, by_9, ze_9, es_9, u_26, ag_26, sz_26, by_26, ze_26, es_26, u_27, ag_27, sz_27, by_27, ze_27, es_27, u_53, ag_53, sz_53, by_53, ze_53, es_53, u_55, f_55_0, f_55_1, f_55_2, f_55_3, f_55_4, f_55_5, f_55_6, f_55_7, f_55_8, ag_55, sz_55, by_55, ze_55, pl_55, es_55, u_57, ag_57, sz_57, by_57, ze_57, es_57, u_64, ag_64, sz_64, by_64, ze_64, es_64]; done) | (simp only [List.append_assoc, List.cons_append, List.nil_append, pre_n, pre_c, pre_a, pre_g, pre_r]; done) | (simp only [List.length_set]; done) | (simp only [List.length_set]; omega) | assumption | decide +kernel | fail) only [↓RP, RQ, isConstA, Nat.reduceEqDiff, Nat.reduceLT, Nat.reduceAdd, Int.reduceNeg, Int.reduceLT, Int.reduceLE, Int.reduceToNat, Int.reduceEq, ↓reduceIte, ite_true, ite_false, Option.toList, Nat.reduceMul, Nat.reduceSub, Nat.reduceLeDiff, ne_eq, eq_self, u_2, ag_2, sz_2, by_2, ze_2, es_2, u_3, ag_3, sz_3, by_3, ze_3, es_3, u_4, ag_4, sz_4, by_4, ze_4, bo_4, es_4, u_5, ag_5, sz_5, by_5, ze_5, u8_5, es_5, u_6, ag_6, sz_6, by_6, ze_6, u8_6, es_6, u_7, f_7_0, f_7_1, f_7_2, f_7_3, ag_7, sz_7, by_7, ze_7, pl_7, es_7, u_8, f_8_0, f_8_1, f_8_2, f_8_3, ag_8, sz_8, by_8, ze_8, pl_8, es_8, u_9, ag_9, sz_9, by_9, ze_9, es_9, u_26, ag_26, sz_26, by_26, ze_26, es_26, u_27, ag_27, sz_27, by_27, ze_27, es_27, u_53, ag_53, sz_53, by_53, ze_53, es_53, u_55, f_55_0, f_55_1, f_55_2, f_55_3, f_55_4, f_55_5, f_55_6, f_55_7, f_55_8, ag_55, sz_55, by_55, ze_55, pl_55, es_55, u_57, ag_57, sz_57, by_57, ze_57, es_57, u_64, ag_64, sz_64, by_64, ze_64, es_64, ↓AW_loop, htp, muxC, f0, hb, l5', hx0, hx1, hx2, hx3, hx4, hor1, hor2, q0, q1, q2, q3, q4, n5', GW_u, hset]
            refine ⟨by decide +kernel, ?_⟩
            subst hin
            exact ⟨rfl, sb', ids', am.setTop (m' := { m' with broken := true, got := [] }) rfl, um.set (by simp [foot])⟩
          · have n5' : ¬ (512 : Int) < nn := by omega
            rw [if_neg n5] at hin
            have hadd : (5 : Int) + (nn : Int) = ((5 + nn : Nat) : Int) := by omega
            by_cases ln : m'.got.length < 5 + nn
            · have ln' : (m'.got.length : Int) < ((5 + nn : Nat) : Int) := by omega
              rw [if_pos ln] at hin
              simp -dsimp -implicitDefEqProofs (disch := first | omega | (simp only [stT, u_2, ag_2, sz_2, by_2, ze_2, es_2, u_3, ag_3, sz_3, by_3, ze_3, es_3, u_4, ag_4, sz_4, by_4, ze_4, bo_4, es_4, u_5, ag_5, sz_5, by_5, ze_5, u8_5, es_5, u_6, ag_6, sz_6, by_6, ze_6, u8_6, es_6, u_7, f_7_0, f_7_1, f_7_2, f_7_3, ag_7, sz_7, by_7, ze_7, pl_7, es_7, u_8, f_8_0, f_8_1, f_8_2, f_8_3, ag_8, sz_8, by_8, ze_8, pl_8, es_8, u_9, ag_9, sz_9, by_9, ze_9, es_9, u_26, ag_26, sz_26, by_26, ze_26, es_26, u_27, ag_27, sz_27, by_27, ze_27, es_27, u_53, ag_53, sz_53, by_53, ze_53, es_53, u_55, f_55_0, f_55_1, f_55_2, f_55_3, f_55_4, f_55_5, f_55_6, f_55_7, f_55_8, ag_55, sz_55, by_55, ze_55, pl_55, es_55, u_57, ag_57, sz_57, by_57, ze_57, es_57, u_64, ag_64, sz_64, by_64, ze_64, es_64]; done) | (simp only [List.append_assoc, List.cons_append, List.nil_append, pre_n, pre_c, pre_a, pre_g, pre_r]; done) | (simp only [List.length_set]; done) | (simp only [List.length_set]; omega) | assumption | decide +kernel | fail) only [↓RP, RQ, isConstA, Nat.reduceEqDiff, Nat.reduceLT, Nat.reduceAdd, Int.reduceNeg, Int.reduceLT, Int.reduceLE, Int.reduceToNat, Int.reduceEq, ↓reduceIte, ite_true, ite_false, Option.toList, Nat.reduceMul, Nat.reduceSub, Nat.reduceLeDiff, ne_eq, eq_self, u_2, ag_2, sz_2, by_2, ze_2, es_2, u_3, ag_3, sz_3, by_3, ze_3, es_3, u_4, ag_4, sz_4, by_4, ze_4, bo_4, es_4, u_5, ag_5, sz_5, by_5, ze_5, u8_5, es_5, u_6, ag_6, sz_6, by_6, ze_6, u8_6, es_6, u_7, f_7_0, f_7_1, f_7_2, f_7_3, ag_7, sz_7, by_7, ze_7, pl_7, es_7, u_8, f_8_0, f_8_1, f_8_2, f_8_3, ag_8, sz_8, by_8, ze_8, pl_8, es_8, u_9, ag_9, sz_9, by_9, ze_9, es_9, u_26, ag_26, sz_26, by_26, ze_26, es_26, u_27, ag_27, sz_27, by_27, ze_27, es_27, u_53, ag_53, sz_53, by_53, ze_53, es_53, u_55, f_55_0, f_55_1, f_55_2, f_55_3, f_55_4, f_55_5, f_55_6, f_55_7, f_55_8, ag_55, sz_55, by_55, ze_55, pl_55, es_55, u_57, ag_57, sz_57, by_57, ze_57, es_57, u_64, ag_64, sz_64, by_64, ze_64, es_64, ↓AW_loop, htp, muxC, f0, hb, l5', hx0, hx1, hx2, hx3, hx4, hor1, hor2, q0, q1, q2, q3, q4, n5', hadd, ln', GW_u]
              refine ⟨by decide +kernel, ?_⟩
              subst hin
              exact ⟨rfl, sb', ids', am, um⟩
            · have ln' : ¬ (m'.got.length : Int) < ((5 + nn : Nat) : Int) := by omega
              rw [if_neg ln] at hin
              have hset : ∀ X, blkA (h'.set p (some (.cells X))) p = some X := fun X => blk_setB0 am.lt
              obtain ⟨M1, hM1⟩ : ∃ M1 : MuxS, { m' with got := m'.got.drop (5 + nn) } = M1 := ⟨_, rfl⟩
              have a2 := am.setTop (m' := M1) (by rw [← hM1])
              have hc1 : ∀ x, muxC M1 x = [.bool m'.first, .int .i64 m'.window, .int .i64 m'.next, x, .string (str m'.control), .string (str m'.ready), .int .i64 m'.turn, .string (str (m'.got.drop (5 + nn))), .bool false] := by
                intro x; rw [← hM1]; simp only [muxC, hb]
              rw [hc1] at a2
              have hdl : (m'.got.drop (5 + nn)).length = m'.got.length - (5 + nn) := List.length_drop
              obtain ⟨body, hbody⟩ : ∃ body, (m'.got.drop 5).take nn = body := ⟨_, rfl⟩
              have hbl : body.length = nn := by rw [← hbody, List.length_take, List.length_drop]; omega
              rw [hM1, hbody] at hst
              have i2 := hst (by omega)
              have hsf2 : x0 = 2 → openedE M1 ii body = 0 → ∀ s, s ∈ M1.streams → s.id < ii := by rw [← hM1]; exact fun h1 h2 => hsf (by omega) h1 body h2
              have hgot := gotM_got M1 x0 ii body
              have hM1g : M1.got = m'.got.drop (5 + nn) := by rw [← hM1]
              have hM1b : M1.broken = false := by rw [← hM1]; exact hb
              rw [hM1g, hM1b] at hgot
              have r2 : M1.window < 2 ^ 40 := by rw [← hM1]; exact g2
              have r4 : ∀ s, s ∈ M1.streams → s.window < 2 ^ 40 ∧ s.room < 2 ^ 40 ∧ s.inn.length < 2 ^ 40 := by rw [← hM1]; exact g4
              rw [hM1, hbody] at hin
              simp -dsimp -implicitDefEqProofs (disch := first | omega | (simp only [stT, u_2, ag_2, sz_2, by_2, ze_2, es_2, u_3, ag_3, sz_3, by_3, ze_3, es_3, u_4, ag_4, sz_4, by_4, ze_4, bo_4, es_4, u_5, ag_5, sz_5, by_5, ze_5, u8_5, es_5, u_6, ag_6, sz_6, by_6, ze_6, u8_6, es_6, u_7, f_7_0, f_7_1, f_7_2, f_7_3, ag_7, sz_7, by_7, ze_7, pl_7, es_7, u_8, f_8_0, f_8_1, f_8_2, f_8_3, ag_8, sz_8, by_8, ze_8, pl_8, es_8, u_9, ag_9, sz_9, by_9, ze_9, es_9, u_26, ag_26, sz_26, by_26, ze_26, es_26, u_27, ag_27, sz_27, by_27, ze_27, es_27, u_53, ag_53, sz_53, by_53, ze_53, es_53, u_55, f_55_0, f_55_1, f_55_2, f_55_3, f_55_4, f_55_5, f_55_6, f_55_7, f_55_8, ag_55, sz_55, by_55, ze_55, pl_55, es_55, u_57, ag_57, sz_57, by_57, ze_57, es_57, u_64, ag_64, sz_64, by_64, ze_64, es_64]; done) | (simp only [List.append_assoc, List.cons_append, List.nil_append, pre_n, pre_c, pre_a, pre_g, pre_r]; done) | (simp only [List.length_set]; done) | (simp only [List.length_set]; omega) | assumption | decide +kernel | fail) only [↓RP, RQ, isConstA, Nat.reduceEqDiff, Nat.reduceLT, Nat.reduceAdd, Int.reduceNeg, Int.reduceLT, Int.reduceLE, Int.reduceToNat, Int.reduceEq, ↓reduceIte, ite_true, ite_false, Option.toList, Nat.reduceMul, Nat.reduceSub, Nat.reduceLeDiff, ne_eq, eq_self, u_2, ag_2, sz_2, by_2, ze_2, es_2, u_3, ag_3, sz_3, by_3, ze_3, es_3, u_4, ag_4, sz_4, by_4, ze_4, bo_4, es_4, u_5, ag_5, sz_5, by_5, ze_5, u8_5, es_5, u_6, ag_6, sz_6, by_6, ze_6, u8_6, es_6, u_7, f_7_0, f_7_1, f_7_2, f_7_3, ag_7, sz_7, by_7, ze_7, pl_7, es_7, u_8, f_8_0, f_8_1, f_8_2, f_8_3, ag_8, sz_8, by_8, ze_8, pl_8, es_8, u_9, ag_9, sz_9, by_9, ze_9, es_9, u_26, ag_26, sz_26, by_26, ze_26, es_26, u_27, ag_27, sz_27, by_27, ze_27, es_27, u_53, ag_53, sz_53, by_53, ze_53, es_53, u_55, f_55_0, f_55_1, f_55_2, f_55_3, f_55_4, f_55_5, f_55_6, f_55_7, f_55_8, ag_55, sz_55, by_55, ze_55, pl_55, es_55, u_57, ag_57, sz_57, by_57, ze_57, es_57, u_64, ag_64, sz_64, by_64, ze_64, es_64, ↓AW_loop, htp, muxC, f0, hb, l5', hx0, hx1, hx2, hx3, hx4, hor1, hor2, q0, q1, q2, q3, q4, n5', hadd, ln', GW_u, hset]
              refine ⟨by decide +kernel, ?_⟩
              refine ⟨⟨by omega, by omega⟩, by omega, ?_⟩
              rw [show 5 + nn - 5 = nn by omega, hbody]
              refine FW.mono (got_q M1 x0 ii body a2 (by omega) hsf2 (by omega) (by omega) r2 r4) (fun v h3 hq => ?_)
              obtain ⟨rfl, sb3, ids3, a3, u3⟩ := hq
              have um3 := (um.set (b := p) (v := some (.cells ⟨[.bool m'.first, .int .i64 m'.window, .int .i64 m'.next, .slice (slA sb') ids'.length ids'.length, .string (str m'.control), .string (str m'.ready), .int .i64 m'.turn, .string (str (m'.got.drop (5 + nn))), .bool false], 9, false⟩)) (by simp [foot])).trans u3
              generalize gotM M1 x0 ii body = M2 at *
              by_cases e0 : gotE M1 x0 ii body = 0
              · rw [if_neg (fun hn => hn e0)] at hin
                rw [e0]
                simp -dsimp -implicitDefEqProofs (disch := first | omega | (simp only [stT, u_2, ag_2, sz_2, by_2, ze_2, es_2, u_3, ag_3, sz_3, by_3, ze_3, es_3, u_4, ag_4, sz_4, by_4, ze_4, bo_4, es_4, u_5, ag_5, sz_5, by_5, ze_5, u8_5, es_5, u_6, ag_6, sz_6, by_6, ze_6, u8_6, es_6, u_7, f_7_0, f_7_1, f_7_2, f_7_3, ag_7, sz_7, by_7, ze_7, pl_7, es_7, u_8, f_8_0, f_8_1, f_8_2, f_8_3, ag_8, sz_8, by_8, ze_8, pl_8, es_8, u_9, ag_9, sz_9, by_9, ze_9, es_9, u_26, ag_26, sz_26, by_26, ze_26, es_26, u_27, ag_27, sz_27, by_27, ze_27, es_27, u_53, ag_53, sz_53, by_53, ze_53, es_53, u_55, f_55_0, f_55_1, f_55_2, f_55_3, f_55_4, f_55_5, f_55_6, f_55_7, f_55_8, ag_55, sz_55, by_55, ze_55, pl_55, es_55, u_57, ag_57, sz_57, by_57, ze_57, es_57, u_64, ag_64, sz_64, by_64, ze_64, es_64]; done) | (simp only [List.append_assoc, List.cons_append, List.nil_append, pre_n, pre_c, pre_a, pre_g, pre_r]; done) | (simp only [List.length_set]; done) | (simp only [List.length_set]; omega) | assumption | decide +kernel | fail) only [↓RP, RQ, isConstA, Nat.reduceEqDiff, Nat.reduceLT, Nat.reduceAdd, Int.reduceNeg, Int.reduceLT, Int.reduceLE, Int.reduceToNat, Int.reduceEq, ↓reduceIte, ite_true, ite_false, Option.toList, Nat.reduceMul, Nat.reduceSub, Nat.reduceLeDiff, ne_eq, eq_self, u_2, ag_2, sz_2, by_2, ze_2, es_2, u_3, ag_3, sz_3, by_3, ze_3, es_3, u_4, ag_4, sz_4, by_4, ze_4, bo_4, es_4, u_5, ag_5, sz_5, by_5, ze_5, u8_5, es_5, u_6, ag_6, sz_6, by_6, ze_6, u8_6, es_6, u_7, f_7_0, f_7_1, f_7_2, f_7_3, ag_7, sz_7, by_7, ze_7, pl_7, es_7, u_8, f_8_0, f_8_1, f_8_2, f_8_3, ag_8, sz_8, by_8, ze_8, pl_8, es_8, u_9, ag_9, sz_9, by_9, ze_9, es_9, u_26, ag_26, sz_26, by_26, ze_26, es_26, u_27, ag_27, sz_27, by_27, ze_27, es_27, u_53, ag_53, sz_53, by_53, ze_53, es_53, u_55, f_55_0, f_55_1, f_55_2, f_55_3, f_55_4, f_55_5, f_55_6, f_55_7, f_55_8, ag_55, sz_55, by_55, ze_55, pl_55, es_55, u_57, ag_57, sz_57, by_57, ze_57, es_57, u_64, ag_64, sz_64, by_64, ze_64, es_64, ↓AW_loop, f0]
                exact ⟨M2.got.length, by rw [hgot.1]; omega, M2, k, sb3, ids3, rfl, by rw [hgot.1]; omega, hgot.2, i2 e0, a3, um3, hin⟩
              · rw [if_pos e0] at hin
                obtain ⟨er, her⟩ : ∃ er, gotE M1 x0 ii body = er := ⟨_, rfl⟩
                rw [her] at hin e0 ⊢
                have e0' : ¬ (er : Int) = 0 := by omega
                have htop3 := a3.top
                have hset3 : ∀ X, blkA (h3.set p (some (.cells X))) p = some X := fun X => blk_setB0 a3.lt
                simp -dsimp -implicitDefEqProofs (disch := first | omega | (simp only [stT, u_2, ag_2, sz_2, by_2, ze_2, es_2, u_3, ag_3, sz_3, by_3, ze_3, es_3, u_4, ag_4, sz_4, by_4, ze_4, bo_4, es_4, u_5, ag_5, sz_5, by_5, ze_5, u8_5, es_5, u_6, ag_6, sz_6, by_6, ze_6, u8_6, es_6, u_7, f_7_0, f_7_1, f_7_2, f_7_3, ag_7, sz_7, by_7, ze_7, pl_7, es_7, u_8, f_8_0, f_8_1, f_8_2, f_8_3, ag_8, sz_8, by_8, ze_8, pl_8, es_8, u_9, ag_9, sz_9, by_9, ze_9, es_9, u_26, ag_26, sz_26, by_26, ze_26, es_26, u_27, ag_27, sz_27, by_27, ze_27, es_27, u_53, ag_53, sz_53, by_53, ze_53, es_53, u_55, f_55_0, f_55_1, f_55_2, f_55_3, f_55_4, f_55_5, f_55_6, f_55_7, f_55_8, ag_55, sz_55, by_55, ze_55, pl_55, es_55, u_57, ag_57, sz_57, by_57, ze_57, es_57, u_64, ag_64, sz_64, by_64, ze_64, es_64]; done) | (simp only [List.append_assoc, List.cons_append, List.nil_append, pre_n, pre_c, pre_a, pre_g, pre_r]; done) | (simp only [List.length_set]; done) | (simp only [List.length_set]; omega) | assumption | decide +kernel | fail) only [↓RP, RQ, isConstA, Nat.reduceEqDiff, Nat.reduceLT, Nat.reduceAdd, Int.reduceNeg, Int.reduceLT, Int.reduceLE, Int.reduceToNat, Int.reduceEq, ↓reduceIte, ite_true, ite_false, Option.toList, Nat.reduceMul, Nat.reduceSub, Nat.reduceLeDiff, ne_eq, eq_self, u_2, ag_2, sz_2, by_2, ze_2, es_2, u_3, ag_3, sz_3, by_3, ze_3, es_3, u_4, ag_4, sz_4, by_4, ze_4, bo_4, es_4, u_5, ag_5, sz_5, by_5, ze_5, u8_5, es_5, u_6, ag_6, sz_6, by_6, ze_6, u8_6, es_6, u_7, f_7_0, f_7_1, f_7_2, f_7_3, ag_7, sz_7, by_7, ze_7, pl_7, es_7, u_8, f_8_0, f_8_1, f_8_2, f_8_3, ag_8, sz_8, by_8, ze_8, pl_8, es_8, u_9, ag_9, sz_9, by_9, ze_9, es_9, u_26, ag_26, sz_26, by_26, ze_26, es_26, u_27, ag_27, sz_27, by_27, ze_27, es_27, u_53, ag_53, sz_53, by_53, ze_53, es_53, u_55, f_55_0, f_55_1, f_55_2, f_55_3, f_55_4, f_55_5, f_55_6, f_55_7, f_55_8, ag_55, sz_55, by_55, ze_55, pl_55, es_55, u_57, ag_57, sz_57, by_57, ze_57, es_57, u_64, ag_64, sz_64, by_64, ze_64, es_64, ↓AW_loop, f0, htop3, muxC, e0', hset3]
                subst hin
                exact ⟨rfl, sb3, ids3, a3.setTop (m' := { M2 with broken := true, got := [] }) rfl, um3.set (by simp [foot])⟩
      · simp -dsimp -implicitDefEqProofs (disch := first | omega | (simp only [stT, u_2, ag_2, sz_2, by_2, ze_2, es_2, u_3, ag_3, sz_3, by_3, ze_3, es_3, u_4, ag_4, sz_4, by_4, ze_4, bo_4, es_4, u_5, ag_5, sz_5, by_5, ze_5, u8_5, es_5, u_6, ag_6, sz_6, by_6, ze_6, u8_6, es_6, u_7, f_7_0, f_7_1, f_7_2, f_7_3, ag_7, sz_7, by_7, ze_7, pl_7, es_7, u_8, f_8_0, f_8_1, f_8_2, f_8_3, ag_8, sz_8, by_8, ze_8, pl_8, es_8, u_9, ag_9, sz_9, by_9, ze_9, es_9, u_26, ag_26, sz_26, by_26, ze_26, es_26, u_27, ag_27, sz_27, by_27, ze_27, es_27, u_53, ag_53, sz_53, by_53, ze_53, es_53, u_55, f_55_0, f_55_1, f_55_2, f_55_3, f_55_4, f_55_5, f_55_6, f_55_7, f_55_8, ag_55, sz_55, by_55, ze_55, pl_55, es_55, u_57, ag_57, sz_57, by_57, ze_57, es_57, u_64, ag_64, sz_64, by_64, ze_64, es_64]; done) | (simp only [List.append_assoc, List.cons_append, List.nil_append, pre_n, pre_c, pre_a, pre_g, pre_r]; done) | (simp only [List.length_set]; done) | (simp only [List.length_set]; omega) | assumption | decide +kernel | fail) only [↓RP, RQ, isConstA, Nat.reduceEqDiff, Nat.reduceLT, Nat.reduceAdd, Int.reduceNeg, Int.reduceLT, Int.reduceLE, Int.reduceToNat, Int.reduceEq, ↓reduceIte, ite_true, ite_false, Option.toList, Nat.reduceMul, Nat.reduceSub, Nat.reduceLeDiff, ne_eq, eq_self, u_2, ag_2, sz_2, by_2, ze_2, es_2, u_3, ag_3, sz_3, by_3, ze_3, es_3, u_4, ag_4, sz_4, by_4, ze_4, bo_4, es_4, u_5, ag_5, sz_5, by_5, ze_5, u8_5, es_5, u_6, ag_6, sz_6, by_6, ze_6, u8_6, es_6, u_7, f_7_0, f_7_1, f_7_2, f_7_3, ag_7, sz_7, by_7, ze_7, pl_7, es_7, u_8, f_8_0, f_8_1, f_8_2, f_8_3, ag_8, sz_8, by_8, ze_8, pl_8, es_8, u_9, ag_9, sz_9, by_9, ze_9, es_9, u_26, ag_26, sz_26, by_26, ze_26, es_26, u_27, ag_27, sz_27, by_27, ze_27, es_27, u_53, ag_53, sz_53, by_53, ze_53, es_53, u_55, f_55_0, f_55_1, f_55_2, f_55_3, f_55_4, f_55_5, f_55_6, f_55_7, f_55_8, ag_55, sz_55, by_55, ze_55, pl_55, es_55, u_57, ag_57, sz_57, by_57, ze_57, es_57, u_64, ag_64, sz_64, by_64, ze_64, es_64, ↓AW_loop]
        exact ⟨a1, u1, by rw [hF]; exact hR⟩
theorem in_q (I : MuxS → Prop) (hI : InOk I) (m : MuxS) (text : List UInt8) {h : AHeap} {p : Nat} {sb : Option Nat} {ids : List Nat} (a : MuxAt h p sb ids m) (ht : text.length < 2 ^ 40) (hg : m.broken = false → m.got.length < 2 ^ 40) (hi : m.broken = false → text.length ≤ 4096 → I { m with got := m.got ++ text }) :
    FW cx 17 [ptrC p, .string (str text)] h fun v h' => v = .int .i64 ((inS m text).1 : Nat) ∧ ∃ sb' ids', MuxAt h' p sb' ids' (inS m text).2 ∧ Upd h h' (foot p sb ids) (foot p sb' ids') := in_q2 I hI.two m text a ht hg hi
end Go.Abs
/- Mx12: the law MuxJunk. Conditions: none. -/
set_option maxRecDepth 100000
set_option linter.unusedSimpArgs false
set_option linter.unusedVariables false
namespace Go.Abs
open Go.Proofs
theorem last_ge (m : MuxS) : ∀ (l : List Strm) (acc : Nat), (∀ s, s ∈ l → ownS m s.id = false) → (l.map (·.id)).Pairwise (· < ·) → (∀ s, s ∈ l → acc ≤ s.id) →
    acc ≤ l.foldl (fun a s => if ownS m s.id = true then a else s.id) acc ∧ ∀ s, s ∈ l → s.id ≤ l.foldl (fun a s => if ownS m s.id = true then a else s.id) acc
  | [], acc, _, _, _ => ⟨Nat.le_refl _, fun s h => by simp at h⟩
  | x :: l, acc, ho, hp, ha => by
    rw [List.map_cons, List.pairwise_cons] at hp
    have hx := ho x List.mem_cons_self
    obtain ⟨i1, i2⟩ := last_ge m l x.id (fun s hs => ho s (List.mem_cons_of_mem _ hs)) hp.2 (fun s hs => Nat.le_of_lt (hp.1 _ (List.mem_map_of_mem hs)))
    have hax := ha x List.mem_cons_self
    rw [List.foldl_cons, hx, if_neg (by decide)]
    refine ⟨Nat.le_trans hax i1, fun s hs => ?_⟩
    rcases List.mem_cons.1 hs with rfl | hs
    · exact i1
    · exact i2 s hs
/-- What holds of the second end while only the first one opens streams. -/
structure JInv (m : MuxS) : Prop where
  fst : m.first = false
  win : m.window ≤ 256
  odd : ∀ s, s ∈ m.streams → s.id % 2 = 1
  pw : (m.streams.map (·.id)).Pairwise (· < ·)
  len : m.streams.length ≤ 16
  bs : ∀ s, s ∈ m.streams → s.window ≤ 256 ∧ s.room ≤ 256 ∧ s.inn.length + m.got.length ≤ 2 ^ 30
  gl : m.got.length ≤ 2 ^ 30
theorem JInv.oth {m : MuxS} (j : JInv m) : ∀ s, s ∈ m.streams → ownS m s.id = false := by
  intro s hs
  unfold ownS
  rw [j.fst, j.odd s hs]; rfl
theorem JInv.safe {m : MuxS} (j : JInv m) {id : Nat} {body : List UInt8} (h : openedE m id body = 0) : (∀ s, s ∈ m.streams → s.id < id) ∧ id % 2 = 1 ∧ m.streams.length < 16 := by
  unfold openedE at h
  split at h
  · simp at h
  · rename_i hn
    split at h
    · simp at h
    · rename_i hc
      have h1 := (last_ge m m.streams 0 j.oth j.pw (fun _ _ => Nat.zero_le _)).2
      refine ⟨fun s hs => ?_, ?_, ?_⟩
      · have := h1 s hs
        have h2 : ¬ id ≤ lastS m m.streams := fun h => hn (.inr (.inr (.inl h)))
        unfold lastS at h2
        omega
      · have h2 : ¬ ownS m id = true := fun h => hn (.inr (.inl h))
        unfold ownS at h2
        rw [j.fst] at h2
        by_cases ho : id % 2 = 1
        · exact ho
        · simp [ho] at h2
      · have : countS m false m.streams = m.streams.length := by
          unfold countS
          rw [List.filter_eq_self.2 (fun s hs => by rw [j.oth s hs]; rfl)]
        have := j.len
        omega
theorem bodyS_id (s : Strm) (kind : Nat) (body : List UInt8) : (bodyS s kind body).id = s.id := by
  unfold bodyS
  repeat' split
  all_goals rfl
theorem map_set_id {l : List Strm} {i : Nat} {s t : Strm} (hs : l[i]? = some s) (ht : t.id = s.id) : (l.set i t).map (·.id) = l.map (·.id) := by
  rw [List.map_set, ht]
  apply List.ext_getElem?
  intro j
  by_cases hij : i = j
  · subst hij
    rw [List.getElem?_set_self (by rw [List.length_map]; exact (List.getElem?_eq_some_iff.1 hs).1), List.getElem?_map, hs]; rfl
  · rw [List.getElem?_set_ne hij]
theorem JInv.cut {m : MuxS} (j : JInv m) (g : List UInt8) (h : g.length ≤ m.got.length) : JInv { m with got := g } :=
  ⟨j.fst, j.win, j.odd, j.pw, j.len, fun s hs => by have := j.bs s hs; simp only; omega, by have := j.gl; simp only; omega⟩
theorem JInv.step {m : MuxS} (j : JInv m) (g : List UInt8) (kind id : Nat) (body : List UInt8) (h : g.length + body.length ≤ m.got.length) : JInv (gotM { m with got := g } kind id body) := by
  have j1 := j.cut g (by omega)
  have hgl := j.gl
  unfold gotM
  split
  · unfold openedM
    split
    · rename_i he
      obtain ⟨s1, s2, s3⟩ := j1.safe he
      refine ⟨j.fst, j.win, fun s hs => ?_, ?_, ?_, fun s hs => ?_, j1.gl⟩
      · rcases List.mem_append.1 hs with hs | hs
        · exact j.odd s hs
        · rw [List.mem_singleton] at hs; subst hs; exact s2
      · simp only [List.map_append, List.map_cons, List.map_nil]
        rw [List.pairwise_append]
        refine ⟨j.pw, by simp, fun a ha b hb => ?_⟩
        rw [List.mem_singleton] at hb; subst hb
        obtain ⟨s, hs, rfl⟩ := List.mem_map.1 ha
        exact s1 s hs
      · simp only [List.length_append, List.length_singleton]
        have : m.streams.length < 16 := s3
        omega
      · rcases List.mem_append.1 hs with hs | hs
        · exact j1.bs s hs
        · rw [List.mem_singleton] at hs; subst hs
          have := j.win
          simp only [newStrm, List.length_nil]
          omega
    · exact j1
  · rename_i k2
    split
    · exact j1
    · rename_i he
      split
      · exact j1
      · rename_i s hsi
        have hmem := List.mem_of_getElem? hsi
        have hb := j.bs s hmem
        refine ⟨j.fst, j.win, fun t ht => ?_, ?_, by simp only [List.length_set]; exact j.len, fun t ht => ?_, j1.gl⟩
        · rcases List.mem_or_eq_of_mem_set ht with ht | rfl
          · exact j.odd t ht
          · rw [bodyS_id]; exact j.odd s hmem
        · simp only
          rw [map_set_id hsi (bodyS_id _ _ _)]; exact j.pw
        · rcases List.mem_or_eq_of_mem_set ht with ht | rfl
          · exact j1.bs t ht
          · simp only
            unfold bodyS
            split
            · simp only
              split
              · omega
              · simp only [List.length_append]; omega
            · split
              · simp only; omega
              · split
                · simp only [List.length_nil]; omega
                · have hwin := j.win
                  have h0 : gotE { m with got := g } kind id body = 0 := by simpa using he
                  unfold gotE at h0
                  rw [if_neg k2] at h0
                  split at h0
                  · simp at h0
                  · split at h0
                    · simp at h0
                    · rw [hsi] at h0
                      simp only at h0
                      unfold bodyE at h0
                      split at h0
                      · simp at h0
                      · split at h0
                        · simp at h0
                        · split at h0
                          · simp at h0
                          · split at h0
                            · simp at h0
                            · rename_i hr _ _ _ _ h5
                              simp only at h5 ⊢
                              have k5 : kind = 5 := by omega
                              have : ¬ (m.window < s.window + two body) := fun hh => h5 ⟨k5, .inr hh⟩
                              omega
theorem JInv.ok : InOk JInv where
  safe m j id body h := (j.safe h).1
  bnd m j := ⟨by have := j.len; omega, by have := j.win; omega, by have := j.gl; omega, fun s hs => by have := j.bs s hs; have := j.gl; omega⟩
  cut m g j h := j.cut g h
  step m g kind id body j h := j.step g kind id body h
theorem JInv.new (w : Nat) (hw : w ≤ 256) : JInv (newM false w) := ⟨rfl, hw, fun s h => by simp [newM] at h, by simp [newM], by simp [newM], fun s h => by simp [newM] at h, by simp [newM]⟩
/-- Who said an error is broken; who said none is not. -/
theorem inR_broken : ∀ (k : Nat) (m : MuxS), m.broken = false → ((inR k m).1 = 0 → (inR k m).2.broken = false) ∧ ((inR k m).1 ≠ 0 → (inR k m).2.broken = true) := by
  intro k
  induction k with
  | zero => intro m h; simp [inR, h]
  | succ k ih =>
    intro m h
    rw [inR]
    split
    · simp [h]
    · split
      · simp
      · split
        · simp [h]
        · split
          · rename_i he; exact ⟨fun h0 => absurd h0 he, fun _ => rfl⟩
          · exact ih _ (by rw [(gotM_got _ _ _ _).2]; exact h)
theorem out_broken (m : MuxS) (most : Nat) {h : AHeap} {p : Nat} {sb : Option Nat} {ids : List Nat} (a : MuxAt h p sb ids m) (hb : m.broken = true) :
    FW cx 14 [ptrC p, .int .i64 most] h fun v h' => v = .string (str []) ∧ MuxAt h' p sb ids m ∧ Upd h h' (foot p sb ids) (foot p sb ids) := by
  refine FW_f Try.func14 rfl (by decide +kernel) ?_
  simp -dsimp -implicitDefEqProofs (disch := first | omega | (simp only [stT, u_2, ag_2, sz_2, by_2, ze_2, es_2, u_3, ag_3, sz_3, by_3, ze_3, es_3, u_4, ag_4, sz_4, by_4, ze_4, bo_4, es_4, u_5, ag_5, sz_5, by_5, ze_5, u8_5, es_5, u_6, ag_6, sz_6, by_6, ze_6, u8_6, es_6, u_8, f_8_0, f_8_1, f_8_2, f_8_3, ag_8, sz_8, by_8, ze_8, pl_8, es_8, u_9, ag_9, sz_9, by_9, ze_9, es_9, u_26, ag_26, sz_26, by_26, ze_26, es_26, u_53, ag_53, sz_53, by_53, ze_53, es_53, u_55, f_55_0, f_55_1, f_55_2, f_55_3, f_55_4, f_55_5, f_55_6, f_55_7, f_55_8, ag_55, sz_55, by_55, ze_55, pl_55, es_55, u_57, ag_57, sz_57, by_57, ze_57, es_57]; done) | (simp only [List.append_assoc, List.cons_append, List.nil_append, pre_n, pre_c, pre_a, pre_g, pre_r]; done) | (simp only [List.length_set]; done) | (simp only [List.length_set]; omega) | assumption | decide +kernel | fail) only [↓RP, RQ, isConstA, Nat.reduceEqDiff, Nat.reduceLT, Nat.reduceAdd, Int.reduceNeg, Int.reduceLT, Int.reduceLE, Int.reduceToNat, Int.reduceEq, ↓reduceIte, ite_true, ite_false, Option.toList, Nat.reduceMul, Nat.reduceSub, Nat.reduceLeDiff, ne_eq, eq_self, u_2, ag_2, sz_2, by_2, ze_2, es_2, u_3, ag_3, sz_3, by_3, ze_3, es_3, u_4, ag_4, sz_4, by_4, ze_4, bo_4, es_4, u_5, ag_5, sz_5, by_5, ze_5, u8_5, es_5, u_6, ag_6, sz_6, by_6, ze_6, u8_6, es_6, u_8, f_8_0, f_8_1, f_8_2, f_8_3, ag_8, sz_8, by_8, ze_8, pl_8, es_8, u_9, ag_9, sz_9, by_9, ze_9, es_9, u_26, ag_26, sz_26, by_26, ze_26, es_26, u_53, ag_53, sz_53, by_53, ze_53, es_53, u_55, f_55_0, f_55_1, f_55_2, f_55_3, f_55_4, f_55_5, f_55_6, f_55_7, f_55_8, ag_55, sz_55, by_55, ze_55, pl_55, es_55, u_57, ag_57, sz_57, by_57, ze_57, es_57, ↓AW_loop, ptrC]
  refine LW_rule (fun n fr h' => h' = h ∧ fget fr 5 = .string (str []) ∧ fget fr 0 = ptrC p) ?_ 0 _ _ ⟨rfl, ?_⟩
  · rintro n fr h' ⟨rfl, f5, f0⟩
    simp -dsimp -implicitDefEqProofs (disch := first | omega | (simp only [stT, u_2, ag_2, sz_2, by_2, ze_2, es_2, u_3, ag_3, sz_3, by_3, ze_3, es_3, u_4, ag_4, sz_4, by_4, ze_4, bo_4, es_4, u_5, ag_5, sz_5, by_5, ze_5, u8_5, es_5, u_6, ag_6, sz_6, by_6, ze_6, u8_6, es_6, u_8, f_8_0, f_8_1, f_8_2, f_8_3, ag_8, sz_8, by_8, ze_8, pl_8, es_8, u_9, ag_9, sz_9, by_9, ze_9, es_9, u_26, ag_26, sz_26, by_26, ze_26, es_26, u_53, ag_53, sz_53, by_53, ze_53, es_53, u_55, f_55_0, f_55_1, f_55_2, f_55_3, f_55_4, f_55_5, f_55_6, f_55_7, f_55_8, ag_55, sz_55, by_55, ze_55, pl_55, es_55, u_57, ag_57, sz_57, by_57, ze_57, es_57]; done) | (simp only [List.append_assoc, List.cons_append, List.nil_append, pre_n, pre_c, pre_a, pre_g, pre_r]; done) | (simp only [List.length_set]; done) | (simp only [List.length_set]; omega) | assumption | decide +kernel | fail) only [↓RP, RQ, isConstA, Nat.reduceEqDiff, Nat.reduceLT, Nat.reduceAdd, Int.reduceNeg, Int.reduceLT, Int.reduceLE, Int.reduceToNat, Int.reduceEq, ↓reduceIte, ite_true, ite_false, Option.toList, Nat.reduceMul, Nat.reduceSub, Nat.reduceLeDiff, ne_eq, eq_self, u_2, ag_2, sz_2, by_2, ze_2, es_2, u_3, ag_3, sz_3, by_3, ze_3, es_3, u_4, ag_4, sz_4, by_4, ze_4, bo_4, es_4, u_5, ag_5, sz_5, by_5, ze_5, u8_5, es_5, u_6, ag_6, sz_6, by_6, ze_6, u8_6, es_6, u_8, f_8_0, f_8_1, f_8_2, f_8_3, ag_8, sz_8, by_8, ze_8, pl_8, es_8, u_9, ag_9, sz_9, by_9, ze_9, es_9, u_26, ag_26, sz_26, by_26, ze_26, es_26, u_53, ag_53, sz_53, by_53, ze_53, es_53, u_55, f_55_0, f_55_1, f_55_2, f_55_3, f_55_4, f_55_5, f_55_6, f_55_7, f_55_8, ag_55, sz_55, by_55, ze_55, pl_55, es_55, u_57, ag_57, sz_57, by_57, ze_57, es_57, ↓AW_loop, f5, f0, a.top, muxC, hb, ptrC, GW_u]
    exact ⟨a, Upd.refl _ _⟩
  · simp -dsimp -implicitDefEqProofs (disch := first | omega | (simp only [stT, u_2, ag_2, sz_2, by_2, ze_2, es_2, u_3, ag_3, sz_3, by_3, ze_3, es_3, u_4, ag_4, sz_4, by_4, ze_4, bo_4, es_4, u_5, ag_5, sz_5, by_5, ze_5, u8_5, es_5, u_6, ag_6, sz_6, by_6, ze_6, u8_6, es_6, u_8, f_8_0, f_8_1, f_8_2, f_8_3, ag_8, sz_8, by_8, ze_8, pl_8, es_8, u_9, ag_9, sz_9, by_9, ze_9, es_9, u_26, ag_26, sz_26, by_26, ze_26, es_26, u_53, ag_53, sz_53, by_53, ze_53, es_53, u_55, f_55_0, f_55_1, f_55_2, f_55_3, f_55_4, f_55_5, f_55_6, f_55_7, f_55_8, ag_55, sz_55, by_55, ze_55, pl_55, es_55, u_57, ag_57, sz_57, by_57, ze_57, es_57]; done) | (simp only [List.append_assoc, List.cons_append, List.nil_append, pre_n, pre_c, pre_a, pre_g, pre_r]; done) | (simp only [List.length_set]; done) | (simp only [List.length_set]; omega) | assumption | decide +kernel | fail) only [↓RP, RQ, isConstA, Nat.reduceEqDiff, Nat.reduceLT, Nat.reduceAdd, Int.reduceNeg, Int.reduceLT, Int.reduceLE, Int.reduceToNat, Int.reduceEq, ↓reduceIte, ite_true, ite_false, Option.toList, Nat.reduceMul, Nat.reduceSub, Nat.reduceLeDiff, ne_eq, eq_self, u_2, ag_2, sz_2, by_2, ze_2, es_2, u_3, ag_3, sz_3, by_3, ze_3, es_3, u_4, ag_4, sz_4, by_4, ze_4, bo_4, es_4, u_5, ag_5, sz_5, by_5, ze_5, u8_5, es_5, u_6, ag_6, sz_6, by_6, ze_6, u8_6, es_6, u_8, f_8_0, f_8_1, f_8_2, f_8_3, ag_8, sz_8, by_8, ze_8, pl_8, es_8, u_9, ag_9, sz_9, by_9, ze_9, es_9, u_26, ag_26, sz_26, by_26, ze_26, es_26, u_53, ag_53, sz_53, by_53, ze_53, es_53, u_55, f_55_0, f_55_1, f_55_2, f_55_3, f_55_4, f_55_5, f_55_6, f_55_7, f_55_8, ag_55, sz_55, by_55, ze_55, pl_55, es_55, u_57, ag_57, sz_57, by_57, ze_57, es_57, ↓AW_loop] <;> rfl
end Go.Abs
/- Mx17: frames on the wire, on lists: what an end does with the bytes of whole frames. Conditions: none. -/
set_option maxRecDepth 100000
set_option linter.unusedSimpArgs false
set_option linter.unusedVariables false
namespace Go.Abs
open Go.Proofs
structure Fr where
  kind : Nat
  id : Nat
  body : List UInt8
def Fr.ok (f : Fr) : Prop := f.kind < 256 ∧ f.id < 65536 ∧ f.body.length ≤ 512
def Fr.enc (f : Fr) : List UInt8 := frameS f.kind f.id f.body
def encF (F : List Fr) : List UInt8 := F.flatMap Fr.enc
theorem encF_nil : encF [] = [] := rfl
theorem encF_cons (f : Fr) (F : List Fr) : encF (f :: F) = f.enc ++ encF F := List.flatMap_cons
theorem encF_app (F G : List Fr) : encF (F ++ G) = encF F ++ encF G := List.flatMap_append
theorem enc_len (f : Fr) : f.enc.length = 5 + f.body.length := frameS_len _ _ _
theorem byteN_app {l : List UInt8} (r : List UInt8) {i : Nat} (h : i < l.length) : byteN (l ++ r) i = byteN l i := by
  unfold byteN; rw [List.getElem?_append_left h]
theorem enc_parse {f : Fr} (ok : f.ok) (r : List UInt8) : byteN (f.enc ++ r) 0 = f.kind ∧ byteN (f.enc ++ r) 1 * 256 + byteN (f.enc ++ r) 2 = f.id ∧ byteN (f.enc ++ r) 3 * 256 + byteN (f.enc ++ r) 4 = f.body.length := by
  obtain ⟨h1, h2, h3⟩ := ok
  unfold byteN Fr.enc frameS
  simp only [List.cons_append, List.getElem?_cons_zero, List.getElem?_cons_succ, Option.getD_some, UInt8.toNat_ofNat']
  refine ⟨by omega, by omega, by omega⟩
theorem enc_drop (f : Fr) (r : List UInt8) : ((f.enc ++ r).drop 5).take f.body.length = f.body ∧ (f.enc ++ r).drop (5 + f.body.length) = r := by
  unfold Fr.enc frameS
  simp only [List.cons_append, List.drop_succ_cons, List.drop_zero, List.nil_append, List.take_left']
  refine ⟨trivial, ?_⟩
  rw [show 5 + f.body.length = f.body.length + 5 by omega]
  simp only [List.drop_succ_cons, List.drop_left']
/-! ### a frame, on the streams alone -/
def mk (fi : Bool) (w : Nat) (ss : List Strm) : MuxS := ⟨fi, w, 0, ss, [], [], 0, [], false⟩
theorem gotE_mk (m : MuxS) (k i : Nat) (b : List UInt8) : gotE m k i b = gotE (mk m.first m.window m.streams) k i b := rfl
theorem gotM_mk (m : MuxS) (k i : Nat) (b : List UInt8) : gotM m k i b = { m with streams := (gotM (mk m.first m.window m.streams) k i b).streams } := by
  unfold gotM
  by_cases k2 : k = 2
  · rw [if_pos k2, if_pos k2]
    unfold openedM
    rw [show openedE m i b = openedE (mk m.first m.window m.streams) i b from rfl]
    split <;> rfl
  · rw [if_neg k2, if_neg k2, gotE_mk]
    split
    · rfl
    · rw [show findS (mk m.first m.window m.streams) i = findS m i from rfl, show (mk m.first m.window m.streams).streams = m.streams from rfl]
      split <;> rfl
def stepL (fi : Bool) (w : Nat) (ss : List Strm) (f : Fr) : Option (List Strm) := if gotE (mk fi w ss) f.kind f.id f.body = 0 then some (gotM (mk fi w ss) f.kind f.id f.body).streams else none
def appL (fi : Bool) (w : Nat) : List Strm → List Fr → Option (List Strm)
  | ss, [] => some ss
  | ss, f :: F => match stepL fi w ss f with
    | some s1 => appL fi w s1 F
    | none => none
theorem appL_cons {fi : Bool} {w : Nat} {ss M : List Strm} {f : Fr} {F : List Fr} (h : appL fi w ss (f :: F) = some M) : ∃ s1, stepL fi w ss f = some s1 ∧ appL fi w s1 F = some M := by
  rw [appL] at h
  split at h
  · rename_i s1 h1; exact ⟨s1, h1, h⟩
  · cases h
theorem appL_app {fi : Bool} {w : Nat} : ∀ (F G : List Fr) (ss : List Strm) (A M : List Strm), appL fi w ss F = some A → appL fi w A G = some M → appL fi w ss (F ++ G) = some M
  | [], G, ss, A, M, h1, h2 => by rw [appL] at h1; cases h1; exact h2
  | f :: F, G, ss, A, M, h1, h2 => by
    obtain ⟨s1, h3, h4⟩ := appL_cons h1
    rw [List.cons_append, appL, h3]
    exact appL_app F G s1 A M h4 h2
theorem stepL_some {fi : Bool} {w : Nat} {ss s1 : List Strm} {f : Fr} (h : stepL fi w ss f = some s1) : gotE (mk fi w ss) f.kind f.id f.body = 0 ∧ s1 = (gotM (mk fi w ss) f.kind f.id f.body).streams := by
  unfold stepL at h
  split at h
  · rename_i h1; exact ⟨h1, (Option.some.inj h).symm⟩
  · cases h
/-- Bytes of whole frames are taken frame for frame. -/
theorem in_step : ∀ (k : Nat) (m : MuxS) (F : List Fr) (rest : List UInt8) (M : List Strm), m.got.length ≤ k → (∀ f, f ∈ F → f.ok) → m.got ++ rest = encF F → appL m.first m.window m.streams F = some M →
    ∃ F1 F2 ss g, F = F1 ++ F2 ∧ appL m.first m.window m.streams F1 = some ss ∧ appL m.first m.window ss F2 = some M ∧ inR k m = (0, { m with streams := ss, got := g }) ∧ g ++ rest = encF F2 ∧ (∀ f F3, F2 = f :: F3 → g.length < 5 + f.body.length) := by
  intro k
  induction k with
  | zero =>
    intro m F rest M hl ok he ha
    exact ⟨[], F, m.streams, m.got, rfl, rfl, ha, rfl, he, fun f F3 _ => by omega⟩
  | succ k ih =>
    intro m F rest M hl ok he ha
    by_cases l5 : m.got.length < 5
    · exact ⟨[], F, m.streams, m.got, rfl, rfl, ha, by rw [inR, if_pos l5], he, fun f F3 _ => by omega⟩
    · cases F with
      | nil =>
        have := congrArg List.length he
        rw [encF_nil, List.length_append] at this
        simp only [List.length_nil] at this
        omega
      | cons f F =>
        have okf := ok f (by simp)
        rw [encF_cons] at he
        obtain ⟨p0, p1, p2⟩ := enc_parse okf (encF F)
        rw [← he] at p0 p1 p2
        rw [byteN_app rest (by omega)] at p0
        rw [byteN_app rest (by omega), byteN_app rest (by omega)] at p1 p2
        obtain ⟨s1, h1, h2⟩ := appL_cons ha
        have hn : ¬ 512 < byteN m.got 3 * 256 + byteN m.got 4 := by rw [p2]; have := okf.2.2; omega
        by_cases ln : m.got.length < 5 + f.body.length
        · refine ⟨[], f :: F, m.streams, m.got, rfl, rfl, ha, ?_, by rw [encF_cons]; exact he, fun f' F3 h => by cases h; exact ln⟩
          rw [inR, if_neg l5, if_neg hn, p2, if_pos ln]
        · obtain ⟨d1, d2⟩ := enc_drop f (encF F)
          have hgl : m.got = f.enc ++ m.got.drop (5 + f.body.length) := by
            have h3 : (m.got ++ rest).take (5 + f.body.length) = (f.enc ++ encF F).take (5 + f.body.length) := by rw [he]
            rw [List.take_append_of_le_length (by omega), List.take_append_of_le_length (by rw [enc_len]; exact Nat.le_refl _), List.take_of_length_le (l := f.enc) (by rw [enc_len]; exact Nat.le_refl _)] at h3
            rw [← h3, List.take_append_drop]
          obtain ⟨e1, e2⟩ := enc_drop f (m.got.drop (5 + f.body.length))
          rw [← hgl] at e1
          obtain ⟨h3, h4⟩ := stepL_some h1
          have hge : gotE { m with got := m.got.drop (5 + f.body.length) } f.kind f.id f.body = 0 := h3
          have hgm : gotM { m with got := m.got.drop (5 + f.body.length) } f.kind f.id f.body = { m with streams := s1, got := m.got.drop (5 + f.body.length) } := by
            rw [gotM_mk, h4]
          have hr2 : m.got.drop (5 + f.body.length) ++ rest = encF F := by
            have h5 : (m.got ++ rest).drop (5 + f.body.length) = (f.enc ++ encF F).drop (5 + f.body.length) := by rw [he]
            rw [List.drop_append_of_le_length (by omega), d2] at h5
            exact h5
          have hir : inR (k + 1) m = inR k { m with streams := s1, got := m.got.drop (5 + f.body.length) } := by
            rw [inR, if_neg l5, if_neg hn, p2, if_neg ln, p0, p1, e1, if_neg (by rw [hge]; simp), hgm]
          obtain ⟨F1, F2, ss, g, q1, q2, q3, q4, q5, q6⟩ := ih { m with streams := s1, got := m.got.drop (5 + f.body.length) } F rest M (by simp only [List.length_drop]; omega) (fun x hx => ok x (by simp [hx])) hr2 h2
          refine ⟨f :: F1, F2, ss, g, by rw [q1]; rfl, ?_, q3, by rw [hir, q4], q5, q6⟩
          rw [appL, h1]; exact q2
/-! ### frames, by kinds -/
theorem find_ids {fi fi' : Bool} {w w' : Nat} {ss st : List Strm} (h : ss.map (·.id) = st.map (·.id)) (id : Nat) : findS (mk fi w ss) id = findS (mk fi' w' st) id := by
  unfold findS mk
  simp only
  have e : ∀ l : List Strm, (l.map fun s => decide (s.id = id)) = (l.map (·.id)).map fun x => decide (x = id) := fun l => by rw [List.map_map]; rfl
  rw [e, e, h]
theorem opened_ids {fi : Bool} {w w' : Nat} {ss st : List Strm} (h : ss.map (·.id) = st.map (·.id)) (id : Nat) (head : List UInt8) : openedE (mk fi w ss) id head = openedE (mk fi w' st) id head := by
  have e1 : ∀ (w : Nat) (l : List Strm), lastS (mk fi w l) l = (l.map (·.id)).foldl (fun a x => if (decide (x % 2 = 1) == fi) = true then a else x) 0 := fun w l => by
    unfold lastS; rw [List.foldl_map]; rfl
  have e2 : ∀ (w : Nat) (l : List Strm), countS (mk fi w l) false l = ((l.map (·.id)).filter fun x => (decide (x % 2 = 1) == fi) == false).length := fun w l => by
    unfold countS; rw [List.filter_map, List.length_map]; rfl
  unfold openedE
  rw [show (mk fi w ss).streams = ss from rfl, show (mk fi w' st).streams = st from rfl, e1, e1, e2, e2, h]
  rfl
theorem bodyE_iff {m : MuxS} {s : Strm} {kind : Nat} {body : List UInt8} : bodyE m s kind body = 0 ↔ ¬ ((kind = 1 ∨ kind = 3) ∧ s.over = true) ∧ ¬ ((kind = 1 ∧ (body = [] ∨ 64 < body.length)) ∨ (kind = 5 ∧ body.length ≠ 2) ∨ ((kind = 3 ∨ kind = 4) ∧ body ≠ [])) ∧ ¬ (kind = 1 ∧ s.room < body.length) ∧ ¬ (kind = 5 ∧ (two body = 0 ∨ m.window < s.window + two body)) := by
  unfold bodyE
  split
  · rename_i h; simp only [h, not_true_eq_false, false_and]; simp
  · rename_i h
    split
    · rename_i h2; simp only [h2, not_true_eq_false, false_and, and_false]; simp
    · rename_i h2
      split
      · rename_i h3; simp only [h3, and_self, not_true_eq_false, false_and, and_false]; simp
      · rename_i h3
        split
        · rename_i h4; simp only [h4, not_true_eq_false, and_false]; simp
        · rename_i h4
          exact ⟨fun _ => ⟨h, h2, h3, h4⟩, fun _ => rfl⟩
/-- What a frame needs, and does. -/
theorem stepL_iff {fi : Bool} {w : Nat} {ss s1 : List Strm} {f : Fr} : stepL fi w ss f = some s1 ↔
    (f.kind = 2 ∧ openedE (mk fi w ss) f.id f.body = 0 ∧ s1 = ss ++ [newStrm (mk fi w []) f.id f.body]) ∨
    (f.kind ≠ 2 ∧ 1 ≤ f.kind ∧ f.kind ≤ 5 ∧ ∃ (j : Nat) (s : Strm), findS (mk fi w ss) f.id = (j : Int) ∧ ss[j]? = some s ∧ bodyE (mk fi w []) s f.kind f.body = 0 ∧ s1 = ss.set j (bodyS s f.kind f.body)) := by
  by_cases k2 : f.kind = 2
  · have h0 : gotE (mk fi w ss) f.kind f.id f.body = openedE (mk fi w ss) f.id f.body := by unfold gotE; rw [if_pos k2]
    unfold stepL
    rw [h0]
    by_cases ho : openedE (mk fi w ss) f.id f.body = 0
    · have h1 : (gotM (mk fi w ss) f.kind f.id f.body).streams = ss ++ [newStrm (mk fi w []) f.id f.body] := by unfold gotM openedM; rw [if_pos k2, if_pos ho]; rfl
      rw [if_pos ho, h1]
      constructor
      · intro h; exact .inl ⟨k2, ho, (Option.some.inj h).symm⟩
      · rintro (⟨_, _, rfl⟩ | ⟨h, _⟩)
        · rfl
        · exact absurd k2 h
    · rw [if_neg ho]
      constructor
      · intro h; cases h
      · rintro (⟨_, h, _⟩ | ⟨h, _⟩)
        · exact absurd h ho
        · exact absurd k2 h
  · by_cases hr : f.kind < 1 ∨ 5 < f.kind
    · have h0 : gotE (mk fi w ss) f.kind f.id f.body = 1 := by unfold gotE; rw [if_neg k2, if_pos hr]
      unfold stepL
      rw [h0, if_neg (by decide)]
      constructor
      · intro h; cases h
      · rintro (⟨h, _⟩ | ⟨_, h1, h2, _⟩)
        · exact absurd h k2
        · omega
    · rcases find_spec (mk fi w ss) f.id with ⟨e, _⟩ | ⟨i, s, e, hs, _⟩
      · have h0 : gotE (mk fi w ss) f.kind f.id f.body = 4 := by unfold gotE; rw [if_neg k2, if_neg hr, e, if_pos (by decide)]
        unfold stepL
        rw [h0, if_neg (by decide)]
        constructor
        · intro h; cases h
        · rintro (⟨h, _⟩ | ⟨_, h1, h2, j, s, h3, _⟩)
          · exact absurd h k2
          · rw [e] at h3; omega
      · have hs' : ss[i]? = some s := hs
        have h0 : gotE (mk fi w ss) f.kind f.id f.body = bodyE (mk fi w []) s f.kind f.body := by
          unfold gotE; rw [if_neg k2, if_neg hr, e, if_neg (by omega), Int.toNat_natCast, hs]; rfl
        unfold stepL
        rw [h0]
        by_cases hb : bodyE (mk fi w []) s f.kind f.body = 0
        · have h1 : (gotM (mk fi w ss) f.kind f.id f.body).streams = ss.set i (bodyS s f.kind f.body) := by
            unfold gotM; rw [if_neg k2, h0, if_neg (by rw [hb]; simp), e, Int.toNat_natCast, hs]; rfl
          rw [if_pos hb, h1]
          constructor
          · intro h; exact .inr ⟨k2, by omega, by omega, i, s, e, hs', hb, (Option.some.inj h).symm⟩
          · rintro (⟨h, _⟩ | ⟨_, h1, h2, j, t, h3, h4, h5, rfl⟩)
            · exact absurd h k2
            · rw [e] at h3
              obtain rfl : i = j := by omega
              rw [hs'] at h4; cases h4; rfl
        · rw [if_neg hb]
          constructor
          · intro h; cases h
          · rintro (⟨h, _⟩ | ⟨_, h1, h2, j, t, h3, h4, h5, _⟩)
            · exact absurd h k2
            · rw [e] at h3
              obtain rfl : i = j := by omega
              rw [hs'] at h4; cases h4
              exact absurd h5 hb
/-! ### reading does not disturb what is on the way -/
def rdS (n r t : Nat) (s : Strm) : Strm := { s with inn := s.inn.drop n, room := s.room + r, taken := t }
theorem map_set_same {l : List Strm} {i : Nat} {s t : Strm} (hs : l[i]? = some s) (ht : t.id = s.id) : (l.set i t).map (·.id) = l.map (·.id) := map_set_id hs ht
theorem stepL_rd {fi : Bool} {w : Nat} {ss s1 : List Strm} {f : Fr} {i : Nat} {s : Strm} {n r t : Nat} (h : stepL fi w ss f = some s1) (hs : ss[i]? = some s) (hn : n ≤ s.inn.length ∨ s.reset = true) :
    ∃ s2, s1[i]? = some s2 ∧ (n ≤ s2.inn.length ∨ s2.reset = true) ∧ stepL fi w (ss.set i (rdS n r t s)) f = some (s1.set i (rdS n r t s2)) := by
  have hids : (ss.set i (rdS n r t s)).map (·.id) = ss.map (·.id) := map_set_id hs rfl
  have hil := (List.getElem?_eq_some_iff.1 hs).1
  rcases stepL_iff.1 h with ⟨k2, ho, rfl⟩ | ⟨k2, k1, k5, j, sj, hf, hj, hb, rfl⟩
  · refine ⟨s, by rw [List.getElem?_append_left hil]; exact hs, hn, stepL_iff.2 (.inl ⟨k2, by rw [opened_ids hids]; exact ho, ?_⟩)⟩
    rw [List.set_append_left _ _ hil]
  · by_cases hij : i = j
    · subst hij
      rw [hs] at hj; cases hj
      have hbi := bodyE_iff.1 hb
      have hb2 : bodyE (mk fi w []) (rdS n r t s) f.kind f.body = 0 := by
        refine bodyE_iff.2 ⟨hbi.1, hbi.2.1, fun h => ?_, hbi.2.2.2⟩
        have h2 : s.room + r < f.body.length := h.2
        exact hbi.2.2.1 ⟨h.1, by omega⟩
      have hroom : f.kind = 1 → f.body.length ≤ s.room := by
        intro h1
        have := hbi.2.2.1
        by_cases hh : s.room < f.body.length
        · exact absurd ⟨h1, hh⟩ this
        · omega
      have hcomm : bodyS (rdS n r t s) f.kind f.body = rdS n r t (bodyS s f.kind f.body) := by
        unfold bodyS rdS
        split
        · rename_i h1
          have := hroom h1
          simp only [Strm.mk.injEq, true_and, and_true]
          refine ⟨?_, by omega⟩
          cases hre : s.reset with
          | true => simp
          | false =>
            have hn' : n ≤ s.inn.length := by rcases hn with hn | hn; exact hn; rw [hre] at hn; cases hn
            simp only [Bool.false_eq_true, if_false]
            rw [List.drop_append_of_le_length hn']
        · split
          · rfl
          · split
            · simp
            · rfl
      refine ⟨bodyS s f.kind f.body, by rw [List.getElem?_set_self hil], ?_, stepL_iff.2 (.inr ⟨k2, k1, k5, i, rdS n r t s, by rw [find_ids (fi' := fi) (w' := w) hids]; exact hf, by rw [List.getElem?_set_self hil], hb2, ?_⟩)⟩
      · unfold bodyS
        split
        · cases hre : s.reset with
          | true => right; rfl
          | false =>
            left
            simp only [Bool.false_eq_true, if_false, List.length_append]
            rcases hn with hn | hn
            · omega
            · rw [hre] at hn; cases hn
        · split
          · exact hn
          · split
            · right; rfl
            · exact hn
      · rw [hcomm, List.set_set, List.set_set]
    · refine ⟨s, by rw [List.getElem?_set_ne (fun e => hij e.symm)]; exact hs, hn, stepL_iff.2 (.inr ⟨k2, k1, k5, j, sj, by rw [find_ids (fi' := fi) (w' := w) hids]; exact hf, by rw [List.getElem?_set_ne hij]; exact hj, hb, ?_⟩)⟩
      rw [List.set_comm _ _ (fun e => hij e.symm)]
theorem appL_rd {fi : Bool} {w : Nat} {i n r t : Nat} : ∀ (F : List Fr) (ss M : List Strm) (s : Strm), appL fi w ss F = some M → ss[i]? = some s → (n ≤ s.inn.length ∨ s.reset = true) → ∃ s2, M[i]? = some s2 ∧ appL fi w (ss.set i (rdS n r t s)) F = some (M.set i (rdS n r t s2))
  | [], ss, M, s, h, hs, hn => by rw [appL] at h; cases h; exact ⟨s, hs, rfl⟩
  | f :: F, ss, M, s, h, hs, hn => by
    obtain ⟨s1, h1, h2⟩ := appL_cons h
    obtain ⟨s2, q1, q2, q3⟩ := stepL_rd (r := r) (t := t) h1 hs hn
    obtain ⟨s3, q4, q5⟩ := appL_rd F s1 M s2 h2 q1 q2
    refine ⟨s3, q4, ?_⟩
    rw [appL, q3]
    exact q5
/-- What a stream keeps through all frames. -/
theorem appL_keep {fi : Bool} {w : Nat} (P : Strm → Prop) (hnew : ∀ id head, P (newStrm (mk fi w []) id head)) (hb : ∀ s kind body, kind ≠ 2 → 1 ≤ kind → kind ≤ 5 → P s → bodyE (mk fi w []) s kind body = 0 → P (bodyS s kind body)) : ∀ (F : List Fr) (ss M : List Strm), appL fi w ss F = some M → (∀ s, s ∈ ss → P s) → ∀ s, s ∈ M → P s
  | [], ss, M, h, hs => by rw [appL] at h; cases h; exact hs
  | f :: F, ss, M, h, hs => by
    obtain ⟨s1, h1, h2⟩ := appL_cons h
    refine appL_keep P hnew hb F s1 M h2 fun s hss => ?_
    rcases stepL_iff.1 h1 with ⟨k2, ho, rfl⟩ | ⟨k2, k1, k5, j, sj, hf, hj, hbe, rfl⟩
    · rcases List.mem_append.1 hss with hss | hss
      · exact hs s hss
      · rw [List.mem_singleton] at hss; subst hss; exact hnew _ _
    · rcases List.mem_or_eq_of_mem_set hss with hss | rfl
      · exact hs s hss
      · exact hb _ _ _ k2 k1 k5 (hs _ (List.mem_of_getElem? hj)) hbe
/-- What was, and what is behind some frames. -/
structure Aft (s s2 : Strm) : Prop where
  id : s2.id = s.id
  head : s2.head = s.head
  taken : s2.taken = s.taken
  room : s2.room ≤ s.room
  inn : s2.reset = false → ∃ d, s2.inn = s.inn ++ d
  over : s.over = true → s2.over = true
  reset : s.reset = true → s2.reset = true
theorem Aft.refl (s : Strm) : Aft s s := ⟨rfl, rfl, rfl, Nat.le_refl _, fun _ => ⟨[], by simp⟩, fun h => h, fun h => h⟩
theorem Aft.trans {s t u : Strm} (x : Aft s t) (y : Aft t u) : Aft s u := by
  refine ⟨y.id.trans x.id, y.head.trans x.head, y.taken.trans x.taken, Nat.le_trans y.room x.room, fun h => ?_, fun h => y.over (x.over h), fun h => y.reset (x.reset h)⟩
  obtain ⟨d, hd⟩ := y.inn h
  have : t.reset = false := by
    cases ht : t.reset with
    | false => rfl
    | true => rw [y.reset ht] at h; cases h
  obtain ⟨d2, hd2⟩ := x.inn this
  exact ⟨d2 ++ d, by rw [hd, hd2, List.append_assoc]⟩
theorem Aft.body (s : Strm) (kind : Nat) (body : List UInt8) : Aft s (bodyS s kind body) := by
  unfold bodyS
  split
  · refine ⟨rfl, rfl, rfl, Nat.sub_le _ _, fun h => ?_, fun h => h, fun h => h⟩
    have h : s.reset = false := h
    simp only [h, Bool.false_eq_true, if_false]
    exact ⟨body, rfl⟩
  · split
    · exact ⟨rfl, rfl, rfl, Nat.le_refl _, fun _ => ⟨[], by simp⟩, fun _ => rfl, fun h => h⟩
    · split
      · exact ⟨rfl, rfl, rfl, Nat.le_refl _, fun h => (by cases h), fun h => h, fun _ => rfl⟩
      · exact ⟨rfl, rfl, rfl, Nat.le_refl _, fun _ => ⟨[], by simp⟩, fun h => h, fun h => h⟩
theorem appL_get {fi : Bool} {w : Nat} : ∀ (F : List Fr) (ss M : List Strm), appL fi w ss F = some M → ss.length ≤ M.length ∧ ∀ (i : Nat) s, ss[i]? = some s → ∃ s2, M[i]? = some s2 ∧ Aft s s2
  | [], ss, M, h => by rw [appL] at h; cases h; exact ⟨Nat.le_refl _, fun i s hs => ⟨s, hs, Aft.refl s⟩⟩
  | f :: F, ss, M, h => by
    obtain ⟨s1, h1, h2⟩ := appL_cons h
    obtain ⟨l2, g2⟩ := appL_get F s1 M h2
    rcases stepL_iff.1 h1 with ⟨k2, ho, rfl⟩ | ⟨k2, k1, k5, j, sj, hf, hj, hbe, rfl⟩
    · refine ⟨by rw [List.length_append] at l2; omega, fun i s hs => g2 i s ?_⟩
      rw [List.getElem?_append_left (List.getElem?_eq_some_iff.1 hs).1]; exact hs
    · refine ⟨by rw [List.length_set] at l2; exact l2, fun i s hs => ?_⟩
      by_cases hij : j = i
      · subst hij
        rw [hs] at hj
        obtain rfl : s = sj := Option.some.inj hj
        obtain ⟨s2, q1, q2⟩ := g2 j (bodyS s f.kind f.body) (by rw [List.getElem?_set_self (List.getElem?_eq_some_iff.1 hs).1])
        exact ⟨s2, q1, (Aft.body s _ _).trans q2⟩
      · exact g2 i s (by rw [List.getElem?_set_ne hij]; exact hs)
end Go.Abs
/- Mx18: two joined ends, on lists: what holds while bytes go to and fro. Conditions: none. -/
set_option maxRecDepth 100000
set_option linter.unusedSimpArgs false
set_option linter.unusedVariables false
namespace Go.Abs
open Go.Proofs
/-- What the frames grant to a stream. -/
def gsum (G : List Fr) (id : Nat) : Nat := (G.map fun f => if f.id = id then two f.body else 0).sum
theorem gsum_nil (id : Nat) : gsum [] id = 0 := rfl
theorem gsum_cons (f : Fr) (G : List Fr) (id : Nat) : gsum (f :: G) id = (if f.id = id then two f.body else 0) + gsum G id := by simp [gsum]
theorem gsum_app (F G : List Fr) (id : Nat) : gsum (F ++ G) id = gsum F id + gsum G id := by simp [gsum]
/-- A grant for one of n streams. -/
structure GOk (n : Nat) (f : Fr) : Prop where
  kind : f.kind = 5
  id : ∃ i, i < n ∧ f.id = 2 * i + 1
  len : f.body.length = 2
  pos : two f.body ≠ 0
def Ids (ss : List Strm) : Prop := ∀ (i : Nat) s, ss[i]? = some s → s.id = 2 * i + 1
theorem find_at {ss : List Strm} (hi : Ids ss) {fi : Bool} {w i : Nat} {s : Strm} (hs : ss[i]? = some s) : findS (mk fi w ss) s.id = (i : Int) := by
  rcases find_spec (mk fi w ss) s.id with ⟨_, h⟩ | ⟨j, t, h1, h2, h3, _⟩
  · exact absurd rfl (h s (List.mem_of_getElem? hs))
  · have e1 := hi i s hs
    have e2 := hi j t h2
    rw [h1]; congr 1; omega
def addW (G : List Fr) (s : Strm) : Strm := { s with window := s.window + gsum G s.id }
theorem appG {w : Nat} : ∀ (G : List Fr) (ss : List Strm), (∀ f, f ∈ G → GOk ss.length f) → Ids ss → (∀ s, s ∈ ss → s.window + gsum G s.id ≤ w) → appL true w ss G = some (ss.map (addW G))
  | [], ss, _, _, _ => by
    rw [appL]
    refine congrArg some ?_
    symm
    exact List.map_id'' (fun s => rfl) ss
  | f :: G, ss, hg, hi, hw => by
    obtain ⟨h1, ⟨i, h2, h2'⟩, h3, h4⟩ := hg f (by simp)
    obtain ⟨s, hs⟩ : ∃ s, ss[i]? = some s := ⟨_, List.getElem?_eq_getElem h2⟩
    have hid := hi i s hs
    have hfid : f.id = s.id := by omega
    have hwi := hw s (List.mem_of_getElem? hs)
    rw [gsum_cons, if_pos hfid] at hwi
    have hst : stepL true w ss f = some (ss.set i (bodyS s f.kind f.body)) := by
      refine stepL_iff.2 (.inr ⟨by omega, by omega, by omega, i, s, by rw [hfid]; exact find_at hi hs, hs, ?_, rfl⟩)
      unfold bodyE
      rw [h1, if_neg (by omega), if_neg (by omega), if_neg (by omega), if_neg]
      intro hh
      rcases hh.2 with hh | hh
      · exact h4 hh
      · have : (mk true w []).window = w := rfl
        omega
    have hb : bodyS s f.kind f.body = { s with window := s.window + two f.body } := by
      unfold bodyS; rw [h1, if_neg (by decide), if_neg (by decide), if_neg (by decide)]
    rw [hb] at hst
    have hids2 : Ids (ss.set i { s with window := s.window + two f.body }) := by
      intro j t ht
      by_cases hij : i = j
      · subst hij
        rw [List.getElem?_set_self h2] at ht; cases ht; exact hid
      · rw [List.getElem?_set_ne hij] at ht; exact hi j t ht
    rw [appL, hst]
    simp only
    rw [appG G _ (fun x hx => by rw [List.length_set]; exact hg x (by simp [hx])) hids2 ?_]
    · refine congrArg some ?_
      apply List.ext_getElem?
      intro j
      rw [List.getElem?_map, List.getElem?_map]
      by_cases hij : i = j
      · subst hij
        rw [List.getElem?_set_self h2, hs]
        simp only [Option.map_some, addW, gsum_cons]
        rw [if_pos hfid, Nat.add_assoc]
      · rw [List.getElem?_set_ne hij]
        cases ht : ss[j]? with
        | none => rfl
        | some t =>
          have := hi j t ht
          simp only [Option.map_some, addW, gsum_cons]
          rw [if_neg (by omega), Nat.zero_add]
    · intro t ht
      obtain ⟨j, hj⟩ := List.getElem?_of_mem ht
      by_cases hij : i = j
      · subst hij
        rw [List.getElem?_set_self h2] at hj; cases hj
        simp only; omega
      · rw [List.getElem?_set_ne hij] at hj
        have := hw t (List.mem_of_getElem? hj)
        rw [gsum_cons] at this
        omega
/-- What is wanted of a stream. -/
structure Pl where
  text : List UInt8
  head : List UInt8
  ends : Bool
  reset : Bool
/-- A stream of the first end and the same stream of the second end, all that is on the way taken in. -/
structure SR (w : Nat) (G : List Fr) (t : Pl) (r : List UInt8) (sa sb : Strm) : Prop where
  hd : sa.head = t.head
  rs : sa.reset = t.reset
  en : sa.ends = t.ends
  id : sb.id = sa.id
  head : sb.head = sa.head
  txt : t.text = r ++ sb.inn ++ sa.out
  win : sa.window + gsum G sa.id = sb.room
  room : sb.room + sb.inn.length + sb.taken = w
  over : sb.over = sa.ended
  end1 : sa.ended = true → sa.out = []
  rst : sb.reset = sa.reset
  inn : sa.inn = []
  tak : sa.taken = 0
  ovr : sa.over = false
  rmm : sa.room ≤ w
def rd (R : List (List UInt8)) (i : Nat) : List UInt8 := (R[i]?).getD []
/-- What each stream of the second end keeps. -/
structure BK (w : Nat) (s : Strm) : Prop where
  win : s.window ≤ w
  sum : s.room + s.inn.length + s.taken ≤ w
  out : s.out = []
  ends : s.ends = false
  tk : s.over = false → s.reset = false → 2 * s.taken < w
structure J (w : Nat) (T : List Pl) (R : List (List UInt8)) (x y : List UInt8) (a b : MuxS) (F : List Fr) (B : List Strm) (G : List Fr) : Prop where
  af : a.first = true
  aw : a.window = w
  ab : a.broken = false
  bf : b.first = false
  bw : b.window = w
  bb : b.broken = false
  w1 : 1 ≤ w
  w2 : w ≤ 256
  n : a.streams.length = T.length
  n16 : T.length ≤ 16
  tr : ∀ t, t ∈ T → (t.reset = true → t.text = []) ∧ t.text.length ≤ 4096
  ids : Ids a.streams
  wireF : b.got ++ (x ++ (a.ready ++ a.control)) = encF F
  okF : ∀ f, f ∈ F → f.ok
  appF : appL false w b.streams F = some B
  wireG : a.got ++ (y ++ (b.ready ++ b.control)) = encF G
  okG : ∀ f, f ∈ G → GOk T.length f
  lenB : B.length = T.length
  rel : ∀ (i : Nat) sa sb t, a.streams[i]? = some sa → B[i]? = some sb → T[i]? = some t → SR w G t (rd R i) sa sb
  bk : ∀ s, s ∈ b.streams → BK w s
  rl : R.length ≤ b.streams.length
  ag : a.got.length ≤ 600
  bg : b.got.length ≤ 600
section
variable {w : Nat} {T : List Pl} {R : List (List UInt8)} {x y : List UInt8} {a b : MuxS} {F : List Fr} {B : List Strm} {G : List Fr}
/-- The three of a place. -/
theorem J.at (j : J w T R x y a b F B G) {i : Nat} {sa : Strm} (hs : a.streams[i]? = some sa) : ∃ sb t, B[i]? = some sb ∧ T[i]? = some t ∧ SR w G t (rd R i) sa sb := by
  have hl := (List.getElem?_eq_some_iff.1 hs).1
  have h1 := j.n; have h2 := j.lenB
  obtain ⟨sb, hb⟩ : ∃ sb, B[i]? = some sb := ⟨_, List.getElem?_eq_getElem (by omega)⟩
  obtain ⟨t, ht⟩ : ∃ t, T[i]? = some t := ⟨_, List.getElem?_eq_getElem (by omega)⟩
  exact ⟨sb, t, hb, ht, j.rel i sa sb t hs hb ht⟩
theorem J.idsB (j : J w T R x y a b F B G) : Ids B := by
  intro i sb hb
  have hl := (List.getElem?_eq_some_iff.1 hb).1
  have h1 := j.n; have h2 := j.lenB
  obtain ⟨sa, ha⟩ : ∃ sa, a.streams[i]? = some sa := ⟨_, List.getElem?_eq_getElem (by omega)⟩
  obtain ⟨t, ht⟩ : ∃ t, T[i]? = some t := ⟨_, List.getElem?_eq_getElem (by omega)⟩
  rw [(j.rel i sa sb t ha hb ht).id]
  exact j.ids i sa ha
theorem J.idsb (j : J w T R x y a b F B G) : Ids b.streams := by
  intro i s hs
  obtain ⟨s2, h1, h2⟩ := (appL_get F b.streams B j.appF).2 i s hs
  rw [← h2.id]; exact j.idsB i s2 h1
theorem J.lenb (j : J w T R x y a b F B G) : b.streams.length ≤ T.length := by
  have := (appL_get F b.streams B j.appF).1
  rw [j.lenB] at this; exact this
end
theorem Ids.pw {ss : List Strm} (h : Ids ss) : (ss.map (·.id)).Pairwise (· < ·) := by
  rw [List.pairwise_iff_getElem]
  intro i j hi hj hij
  simp only [List.getElem_map]
  rw [List.length_map] at hi hj
  have h1 := h i ss[i] (List.getElem?_eq_getElem hi)
  have h2 := h j ss[j] (List.getElem?_eq_getElem hj)
  omega
theorem J.jinv {w : Nat} {T : List Pl} {R : List (List UInt8)} {x y : List UInt8} {a b : MuxS} {F : List Fr} {B : List Strm} {G : List Fr} (j : J w T R x y a b F B G) (text : List UInt8) (ht : text.length ≤ 4096) : JInv { b with got := b.got ++ text } := by
  have hbg := j.bg
  have hw := j.w2
  refine ⟨j.bf, by simp only; rw [j.bw]; exact hw, fun s hs => ?_, j.idsb.pw, Nat.le_trans j.lenb j.n16, fun s hs => ?_, by simp only [List.length_append]; omega⟩
  · obtain ⟨i, hi⟩ := List.getElem?_of_mem hs
    have := j.idsb i s hi
    omega
  · have h1 := (j.bk s hs).win
    have h2 := (j.bk s hs).sum
    simp only [List.length_append]
    omega
end Go.Abs
/- Mx7: the law MuxPieces, on lists. Conditions: none. -/
set_option maxRecDepth 100000
set_option linter.unusedSimpArgs false
set_option linter.unusedVariables false
namespace Go.Abs
open Go.Proofs
/-- What a stream may still send, at most. -/
def cost (s : Strm) : Nat := if s.reset = true ∨ s.ended = true then 0 else min s.out.length s.window + 5 * ((min s.out.length s.window + 63) / 64) + 5
def pot (m : MuxS) : Nat := m.ready.length + m.control.length + (m.streams.map cost).sum
theorem chunk_cost {s : Strm} (h : (chunkS s).1 ≠ []) : (chunkS s).1.length + cost (chunkS s).2 ≤ cost s := by
  unfold chunkS at h ⊢
  split
  · rename_i h1; rw [if_pos h1] at h; simp at h
  · rename_i h1
    rw [if_neg h1] at h
    split
    · rename_i h2
      simp only [frameS_len, cost, List.length_take, List.length_drop]
      rw [if_neg (by simpa using h1), if_neg h1]
      unfold most64 at h2 ⊢
      omega
    · rename_i h2
      rw [if_neg h2] at h
      split
      · simp only [cost, frameS_len, List.length_nil]
        rw [if_pos (by simp), if_neg h1]
        omega
      · rename_i h3; rw [if_neg h3] at h; simp at h
theorem sum_set (f : Strm → Nat) (t : Strm) : ∀ (l : List Strm) (i : Nat) (s : Strm), l[i]? = some s → ((l.set i t).map f).sum + f s = (l.map f).sum + f t
  | [], i, s, h => by simp at h
  | x :: l, 0, s, h => by simp at h; subst h; simp; omega
  | x :: l, i + 1, s, h => by
    have := sum_set f t l i s (by simpa using h)
    simp only [List.set_cons_succ, List.map_cons, List.sum_cons]
    omega
theorem fill_pot {m m1 : MuxS} (hr : m.ready = []) (h : fillS m = some m1) : pot m1 ≤ pot m := by
  rcases fillS_spec h with ⟨hc, rfl⟩ | ⟨hc, i, s, hs, hch, rfl⟩
  · simp [pot, hr]
  · have h1 := chunk_cost hch
    have h2 := sum_set cost (chunkS s).2 m.streams i s hs
    simp only [pot, hr, hc, List.length_nil]
    omega
theorem nextM {m m1 : MuxS} (hm : (if m.ready ≠ [] then some m else fillS m) = some m1) : ∃ c r, m1.ready = c :: r := by
  cases hr : m1.ready with
  | nil =>
    exfalso
    by_cases h0 : m.ready = []
    · rw [if_neg (by simp [h0])] at hm; exact fillS_ready hm hr
    · rw [if_pos h0] at hm; cases hm; exact h0 hr
  | cons c r => exact ⟨c, r, rfl⟩
theorem outB_some {m m1 : MuxS} {c : UInt8} {r : List UInt8} (hm : (if m.ready ≠ [] then some m else fillS m) = some m1) (hr : m1.ready = c :: r) (k : Nat) : outB (k + 1) m = (c :: (outB k { m1 with ready := r }).1, (outB k { m1 with ready := r }).2) := by
  rw [outB, hm]
  simp only
  rw [hr]
theorem outB_stop {m : MuxS} (hm : (if m.ready ≠ [] then some m else fillS m) = none) (k : Nat) : outB k m = ([], m) := by
  cases k with
  | zero => rfl
  | succ k => rw [outB, hm]
/-- Who may send enough sends all. -/
theorem drained : ∀ (n k : Nat) (m : MuxS), pot m ≤ n → pot m ≤ k → (outB n m).1 = (outB k m).1 := by
  have key : ∀ (m m1 : MuxS), (if m.ready ≠ [] then some m else fillS m) = some m1 → pot m1 ≤ pot m ∧ m1.ready ≠ [] := by
    intro m m1 h
    by_cases hr : m.ready = []
    · rw [if_neg (by simp [hr])] at h
      exact ⟨fill_pot hr h, fillS_ready h⟩
    · rw [if_pos hr] at h; cases h; exact ⟨Nat.le_refl _, hr⟩
  have zero : ∀ (k : Nat) (m : MuxS), pot m = 0 → (outB k m).1 = [] := by
    intro k m h
    cases k with
    | zero => rfl
    | succ k =>
      rw [outB]
      cases hm : (if m.ready ≠ [] then some m else fillS m) with
      | none => rfl
      | some m1 =>
        have := key m m1 hm
        have hp : 0 < m1.ready.length := List.length_pos_iff.2 this.2
        have : m1.ready.length ≤ pot m1 := by unfold pot; omega
        omega
  intro n
  induction n with
  | zero => intro k m h _; rw [zero k m (by omega), zero 0 m (by omega)]
  | succ n ih =>
    intro k m h1 h2
    cases k with
    | zero => rw [zero (n + 1) m (by omega), zero 0 m (by omega)]
    | succ k =>
      cases hm : (if m.ready ≠ [] then some m else fillS m) with
      | none => rw [outB_stop hm, outB_stop hm]
      | some m1 =>
        have hk := key m m1 hm
        obtain ⟨c, r, hr⟩ := nextM hm
        have hp : pot { m1 with ready := r } + 1 = pot m1 := by unfold pot; rw [hr]; simp only [List.length_cons]; omega
        have := ih k { m1 with ready := r } (by omega) (by omega)
        rw [outB_some hm hr, outB_some hm hr, this]
theorem outB_add : ∀ (a b : Nat) (m : MuxS), outB (a + b) m = ((outB a m).1 ++ (outB b (outB a m).2).1, (outB b (outB a m).2).2) := by
  intro a
  induction a with
  | zero => intro b m; rw [Nat.zero_add, outB]; rfl
  | succ a ih =>
    intro b m
    cases hm : (if m.ready ≠ [] then some m else fillS m) with
    | none => rw [outB_stop hm, outB_stop hm, outB_stop hm]; rfl
    | some m1 =>
      obtain ⟨c, r, hr⟩ := nextM hm
      rw [show a + 1 + b = (a + b) + 1 by omega, outB_some hm hr, outB_some hm hr, ih]
      rfl
theorem outB_len : ∀ (n : Nat) (m : MuxS), (outB n m).1.length ≤ n := by
  intro n
  induction n with
  | zero => intro m; simp [outB]
  | succ n ih =>
    intro m
    cases hm : (if m.ready ≠ [] then some m else fillS m) with
    | none => rw [outB_stop hm]; simp
    | some m1 =>
      obtain ⟨c, r, hr⟩ := nextM hm
      rw [outB_some hm hr]
      exact Nat.succ_le_succ (ih _)
theorem outB_MB : ∀ (n : Nat) (m : MuxS), MB m → MB (outB n m).2 := by
  intro n
  induction n with
  | zero => intro m h; exact h
  | succ n ih =>
    intro m h
    cases hm : (if m.ready ≠ [] then some m else fillS m) with
    | none => rw [outB_stop hm]; exact h
    | some m1 =>
      have h1 : MB m1 := by
        by_cases hr : m.ready = []
        · rw [if_neg (by simp [hr])] at hm; exact fillS_MB hm h
        · rw [if_pos hr] at hm; cases hm; exact h
      obtain ⟨c, r, hr⟩ := nextM hm
      rw [outB_some hm hr]
      refine ih _ ⟨h1.1, h1.2.1, ?_, h1.2.2.2⟩
      have := h1.2.2.1
      rw [hr] at this
      simp only [List.length_cons] at this
      simp only; omega
/-- One body more. -/
def textP (b : List UInt8) : List UInt8 := b.take (min b.length 100)
def strP (m : MuxS) (b : List UInt8) : Strm := { newStrm m m.next [104] with out := textP b, ends := true }
def stepP (m : MuxS) (b : List UInt8) : MuxS := { openS m [104] with streams := m.streams ++ [strP m b] }
def buildP (w : Nat) (l : List (List UInt8)) : MuxS := l.foldl stepP (newM true w)
structure PInv (w : Nat) (m : MuxS) (j : Nat) : Prop where
  br : m.broken = false
  len : m.streams.length = j
  nx : m.next = 2 * j + 1
  rd : m.ready = []
  ct : m.control.length = 6 * j
  win : m.window = w
  str : ∀ s, s ∈ m.streams → s.id < m.next ∧ s.window = w ∧ s.out.length ≤ 100
theorem PInv.new (w : Nat) : PInv w (newM true w) 0 := ⟨rfl, rfl, rfl, rfl, rfl, rfl, fun s h => by simp [newM] at h⟩
theorem textP_len (b : List UInt8) : (textP b).length ≤ 100 := by unfold textP; rw [List.length_take]; omega
theorem PInv.step {w : Nat} {m : MuxS} {j : Nat} (v : PInv w m j) (b : List UInt8) : PInv w (stepP m b) (j + 1) := by
  refine ⟨v.br, by simp [stepP, v.len], ?_, v.rd, ?_, v.win, fun s hs => ?_⟩
  · simp only [stepP, openS, v.nx]; omega
  · simp only [stepP, openS, List.length_append, v.ct, frameS_len, List.length_cons, List.length_nil]; omega
  · simp only [stepP, openS] at hs ⊢
    rcases List.mem_append.1 hs with h | h
    · have := v.str s h; omega
    · rw [List.mem_singleton] at h; subst h
      exact ⟨Nat.lt_add_of_pos_right (by decide), v.win, textP_len b⟩
theorem buildP_inv (w : Nat) : ∀ l : List (List UInt8), PInv w (buildP w l) l.length := by
  intro l
  have : ∀ (l : List (List UInt8)) (m : MuxS) (j : Nat), PInv w m j → PInv w (l.foldl stepP m) (j + l.length) := by
    intro l
    induction l with
    | nil => intro m j h; exact h
    | cons b l ih => intro m j h; have := ih _ _ (h.step b); rw [List.length_cons, show j + (l.length + 1) = j + 1 + l.length by omega]; exact this
  have h := this l _ 0 (PInv.new w)
  rw [Nat.zero_add] at h
  exact h
theorem sum_le (l : List Strm) (h : ∀ s, s ∈ l → cost s ≤ 115) : (l.map cost).sum ≤ 115 * l.length := by
  induction l with
  | nil => simp
  | cons x l ih =>
    have h1 := ih (fun s hs => h s (List.mem_cons_of_mem _ hs))
    have h2 := h x List.mem_cons_self
    simp only [List.map_cons, List.sum_cons, List.length_cons]
    omega
theorem PInv.pot {w : Nat} {m : MuxS} {j : Nat} (v : PInv w m j) : Go.Abs.pot m ≤ 121 * j := by
  have h := sum_le m.streams (fun s hs => by
    have := v.str s hs
    unfold cost
    split
    · omega
    · have : min s.out.length s.window ≤ 100 := by omega
      omega)
  unfold Go.Abs.pot
  rw [v.rd, v.ct, v.len] at *
  simp only [List.length_nil]
  omega
theorem PInv.mb {w : Nat} {m : MuxS} {j : Nat} (v : PInv w m j) (hw : w ≤ 256) (hj : j ≤ 4) : MB m :=
  ⟨v.br, by rw [v.ct]; omega, by rw [v.rd]; decide, fun s hs => by have := v.str s hs; omega⟩
/-- The law: the pieces do not matter. -/
theorem pieces_law {w : Nat} {m : MuxS} {j : Nat} (v : PInv w m j) (hj : j ≤ 4) (n k : Nat) (hn : 2000 ≤ n) (hk : 2000 ≤ k) : (outB n m).1 = (outB k m).1 := by
  have := v.pot
  exact drained n k m (by omega) (by omega)
theorem findS_last {w : Nat} {m : MuxS} {j : Nat} (v : PInv w m j) (s : Strm) (hs : s.id = m.next) (m' : MuxS) (hm : m'.streams = m.streams ++ [s]) : findS m' m.next = (j : Int) := by
  rcases find_spec m' m.next with ⟨_, h⟩ | ⟨i, t, h1, h2, h3, h4⟩
  · exact absurd hs (h s (by rw [hm]; simp))
  · rw [h1]
    have hlt := (List.getElem?_eq_some_iff.1 h2).1
    rw [hm, List.length_append, v.len, List.length_singleton] at hlt
    by_cases hij : i < j
    · rw [hm, List.getElem?_append_left (by rw [v.len]; exact hij)] at h2
      have := (v.str t (List.mem_of_getElem? h2)).1
      omega
    · have : i = j := by omega
      rw [this]
theorem get_last {w : Nat} {m : MuxS} {j : Nat} (v : PInv w m j) (s : Strm) : (m.streams ++ [s])[j]? = some s := by
  rw [List.getElem?_append_right (by rw [v.len]; exact Nat.le_refl _), v.len, Nat.sub_self]; rfl
theorem set_last {w : Nat} {m : MuxS} {j : Nat} (v : PInv w m j) (s t : Strm) : (m.streams ++ [s]).set j t = m.streams ++ [t] := by
  rw [List.set_append_right (h := by rw [v.len]; exact Nat.le_refl _), v.len, Nat.sub_self]; rfl
end Go.Abs
/- Mx19: two joined ends, on lists: each step keeps what holds. Conditions: none. -/
set_option maxRecDepth 100000
set_option linter.unusedSimpArgs false
set_option linter.unusedVariables false
namespace Go.Abs
open Go.Proofs
theorem outB_next {m : MuxS} (k : Nat) : ((if m.ready ≠ [] then some m else fillS m) = none ∧ outB (k + 1) m = ([], m)) ∨ ∃ m1 c r, (if m.ready ≠ [] then some m else fillS m) = some m1 ∧ m1.ready = c :: r ∧ outB (k + 1) m = (c :: (outB k { m1 with ready := r }).1, (outB k { m1 with ready := r }).2) := by
  cases hm : (if m.ready ≠ [] then some m else fillS m) with
  | none => exact .inl ⟨rfl, outB_stop hm _⟩
  | some m1 =>
    obtain ⟨c, r, hr⟩ := nextM hm
    exact .inr ⟨m1, c, r, rfl, hr, outB_some hm hr k⟩
theorem ready_or {m m1 : MuxS} (h : (if m.ready ≠ [] then some m else fillS m) = some m1) : m1 = m ∨ (m.ready = [] ∧ fillS m = some m1) := by
  by_cases hr : m.ready = []
  · rw [if_neg (by simp [hr])] at h; exact .inr ⟨hr, h⟩
  · rw [if_pos hr] at h; cases h; exact .inl rfl
/-- What an end that sends less than it may has left. -/
theorem out_drain : ∀ (k : Nat) (m : MuxS), (outB k m).1.length < k → (outB k m).2.ready = [] ∧ fillS (outB k m).2 = none := by
  intro k
  induction k with
  | zero => intro m h; simp [outB] at h
  | succ k ih =>
    intro m h
    rcases outB_next (m := m) k with ⟨h1, h2⟩ | ⟨m1, c, r, h1, h2, h3⟩
    · rw [h2]
      by_cases hr : m.ready = []
      · rw [if_neg (by simp [hr])] at h1; exact ⟨hr, h1⟩
      · rw [if_pos hr] at h1; cases h1
    · rw [h3] at h ⊢
      simp only [List.length_cons] at h
      exact ih _ (by omega)
theorem mod_reach {n f i : Nat} (hi : i < n) : ∃ k, k < n ∧ (f + k) % n = i := by
  refine ⟨(i + n - f % n) % n, Nat.mod_lt _ (by omega), ?_⟩
  have h1 : f % n < n := Nat.mod_lt _ (by omega)
  rw [Nat.add_mod, Nat.mod_mod, ← Nat.add_mod]
  by_cases h2 : f % n ≤ i
  · have e : f % n + (i + n - f % n) = i + n := by omega
    rw [← Nat.mod_add_mod, e, Nat.add_mod_right, Nat.mod_eq_of_lt hi]
  · have e : f % n + (i + n - f % n) = i + n := by omega
    rw [← Nat.mod_add_mod, e, Nat.add_mod_right, Nat.mod_eq_of_lt hi]
theorem fillGo_none (m : MuxS) (f : Nat) : ∀ (r k : Nat), fillGo m f r k = none → k + r = m.streams.length → ∀ j, k ≤ j → j < m.streams.length → ∀ s, m.streams[(f + j) % m.streams.length]? = some s → (chunkS s).1 = [] := by
  intro r
  induction r with
  | zero => intro k _ hk j h1 h2; omega
  | succ r ih =>
    intro k h hk j h1 h2 s hs
    rw [fillGo] at h
    have hlt : (f + k) % m.streams.length < m.streams.length := Nat.mod_lt _ (by omega)
    split at h
    · rename_i t ht
      split at h
      · cases h
      · rename_i hc
        by_cases hj : j = k
        · subst hj
          rw [ht] at hs; cases hs
          simpa using hc
        · exact ih (k + 1) h (by omega) j (by omega) h2 s hs
    · rename_i ht
      rw [List.getElem?_eq_none_iff] at ht
      omega
theorem fillS_none {m : MuxS} (h : fillS m = none) : m.control = [] ∧ ∀ s, s ∈ m.streams → (chunkS s).1 = [] := by
  unfold fillS at h
  split at h
  · cases h
  · rename_i hc
    refine ⟨by simpa using hc, fun s hs => ?_⟩
    obtain ⟨i, hi⟩ := List.getElem?_of_mem hs
    obtain ⟨k, hk, he⟩ := mod_reach (f := turnS m) (List.getElem?_eq_some_iff.1 hi).1
    exact fillGo_none m _ _ 0 h (by omega) k (by omega) hk s (by rw [he]; exact hi)
/-- An end without anything to send but what is said. -/
theorem out_quiet : ∀ (k : Nat) (m : MuxS), (∀ s, s ∈ m.streams → (chunkS s).1 = []) → ∃ r c, (outB k m).2 = { m with ready := r, control := c } ∧ (outB k m).1 ++ (r ++ c) = m.ready ++ m.control ∧ ((outB k m).1.length < k → r = [] ∧ c = []) := by
  intro k
  induction k with
  | zero => intro m hq; exact ⟨m.ready, m.control, rfl, rfl, fun h => by simp [outB] at h⟩
  | succ k ih =>
    intro m hq
    rcases outB_next (m := m) k with ⟨h1, h2⟩ | ⟨m1, c, r, h1, h2, h3⟩
    · rw [h2]
      refine ⟨m.ready, m.control, rfl, rfl, fun _ => ?_⟩
      by_cases hr : m.ready = []
      · rw [if_neg (by simp [hr])] at h1; exact ⟨hr, (fillS_none h1).1⟩
      · rw [if_pos hr] at h1; cases h1
    · rw [h3]
      have hm1 : m1.streams = m.streams ∧ ∃ r1 c1, m1 = { m with ready := r1, control := c1 } ∧ r1 ++ c1 = m.ready ++ m.control := by
        rcases ready_or h1 with rfl | ⟨hr, hf⟩
        · exact ⟨rfl, m1.ready, m1.control, rfl, rfl⟩
        · rcases fillS_spec hf with ⟨hc, rfl⟩ | ⟨hc, i, s, hs, hch, _⟩
          · exact ⟨rfl, m.control, [], rfl, by rw [hr]; simp⟩
          · exact absurd (hq s (List.mem_of_getElem? hs)) hch
      obtain ⟨hs1, r1, c1, rfl, hw⟩ := hm1
      obtain ⟨r2, c2, q1, q2, q3⟩ := ih { { m with ready := r1, control := c1 } with ready := r } hq
      simp only at h2 q2
      refine ⟨r2, c2, q1, ?_, fun h => q3 (by simp only [List.length_cons] at h; exact Nat.lt_of_succ_lt_succ h)⟩
      rw [List.cons_append, q2, ← hw, h2]; rfl
def cA (s : Strm) : Nat := 6 * s.out.length + if s.reset = true ∨ s.ended = true then 0 else 5
def pA (m : MuxS) : Nat := m.ready.length + m.control.length + (m.streams.map cA).sum
theorem chunk_cA {s : Strm} (h : (chunkS s).1 ≠ []) : (chunkS s).1.length + cA (chunkS s).2 ≤ cA s ∧ 5 ≤ (chunkS s).1.length := by
  unfold chunkS at h ⊢
  split
  · rename_i h1; rw [if_pos h1] at h; simp at h
  · rename_i h1
    rw [if_neg h1] at h
    split
    · rename_i h2
      simp only [frameS_len, cA, List.length_take, List.length_drop]
      rw [if_neg h1]
      unfold most64 at h2 ⊢
      omega
    · rename_i h2
      rw [if_neg h2] at h
      split
      · rename_i h3
        simp only [cA, frameS_len, List.length_nil]
        rw [if_pos (by simp), if_neg h1]
        omega
      · rename_i h3; rw [if_neg h3] at h; simp at h
theorem fill_pA {m m1 : MuxS} (hr : m.ready = []) (h : fillS m = some m1) : pA m1 ≤ pA m := by
  rcases fillS_spec h with ⟨hc, rfl⟩ | ⟨hc, i, s, hs, hch, rfl⟩
  · simp [pA, hr]
  · have h1 := (chunk_cA hch).1
    have h2 := sum_set cA (chunkS s).2 m.streams i s hs
    simp only [pA, hr, hc, List.length_nil]
    omega
theorem out_pA : ∀ (k : Nat) (m : MuxS), (outB k m).1.length + pA (outB k m).2 ≤ pA m := by
  intro k
  induction k with
  | zero => intro m; simp [outB]
  | succ k ih =>
    intro m
    rcases outB_next (m := m) k with ⟨h1, h2⟩ | ⟨m1, c, r, h1, h2, h3⟩
    · rw [h2]; simp
    · rw [h3]
      have h4 := ih { m1 with ready := r }
      have h5 : pA m1 ≤ pA m := by
        rcases ready_or h1 with rfl | ⟨hr, hf⟩
        · exact Nat.le_refl _
        · exact fill_pA hr hf
      have h6 : pA { m1 with ready := r } + 1 = pA m1 := by unfold pA; rw [h2]; simp only [List.length_cons]; omega
      simp only [List.length_cons]
      omega
theorem out_ge : ∀ (k : Nat) (m : MuxS), min k m.ready.length ≤ (outB k m).1.length := by
  intro k
  induction k with
  | zero => intro m; simp
  | succ k ih =>
    intro m
    cases hr : m.ready with
    | nil => simp
    | cons c r =>
      have h := outB_some (m := m) (m1 := m) (c := c) (r := r) (by rw [if_pos (by rw [hr]; simp)]) hr k
      rw [h]
      have := ih { m with ready := r }
      simp only [List.length_cons] at this ⊢
      omega
/-- An end that can send something sends five bytes at least. -/
theorem out_five {m : MuxS} {k : Nat} (hk : 5 ≤ k) (hr : m.ready = []) (hc : m.control = []) {s : Strm} (hs : s ∈ m.streams) (hch : (chunkS s).1 ≠ []) : 5 ≤ (outB k m).1.length := by
  cases hf : fillS m with
  | none => exact absurd ((fillS_none hf).2 s hs) hch
  | some m1 =>
    obtain ⟨k, rfl⟩ : ∃ j, k = j + 1 := ⟨k - 1, by omega⟩
    rw [outB_fill hr hf]
    have h1 := out_ge (k + 1) m1
    rcases fillS_spec hf with ⟨h2, _⟩ | ⟨_, i, t, ht, hct, rfl⟩
    · exact absurd hc h2
    · have := (chunk_cA hct).2
      simp only at h1
      omega
/-! ### the steps -/
section
variable {w : Nat} {T : List Pl} {R : List (List UInt8)} {x y : List UInt8} {a b : MuxS} {F : List Fr} {B : List Strm} {G : List Fr}
theorem chunk_flags (s : Strm) : (chunkS s).2.head = s.head ∧ (chunkS s).2.reset = s.reset ∧ (chunkS s).2.ends = s.ends ∧ (chunkS s).2.inn = s.inn ∧ (chunkS s).2.taken = s.taken ∧ (chunkS s).2.over = s.over := by
  unfold chunkS
  repeat' split
  all_goals exact ⟨rfl, rfl, rfl, rfl, rfl, rfl⟩
theorem most64_le (s : Strm) : most64 s ≤ s.out.length ∧ most64 s ≤ s.window ∧ most64 s ≤ 64 := by unfold most64; omega
theorem J.fill (j : J w T R x y a b F B G) (hr : a.ready = []) {a1 : MuxS} (h : fillS a = some a1) : ∃ F' B', J w T R x y a1 b F' B' G := by
  rcases fillS_spec h with ⟨hc, rfl⟩ | ⟨hc, i, s, hs, hch, rfl⟩
  · refine ⟨F, B, { j with wireF := ?_, ids := j.ids }⟩
    have := j.wireF
    rw [hr] at this
    simpa using this
  · obtain ⟨sb, t, hB, hT, r⟩ := j.at hs
    have hil := (List.getElem?_eq_some_iff.1 hs).1
    have hiB := (List.getElem?_eq_some_iff.1 hB).1
    have hiT := (List.getElem?_eq_some_iff.1 hT).1
    have hn16 := j.n16
    have hid := j.ids i s hs
    have hfind : findS (Go.Abs.mk false w B) s.id = (i : Int) := by rw [← r.id]; exact find_at j.idsB hB
    -- the new frame, and what it does
    have key : ∃ f : Fr, f.ok ∧ f.enc = (chunkS s).1 ∧ stepL false w B f = some (B.set i (bodyS sb f.kind f.body)) ∧ SR w G t (rd R i) (chunkS s).2 (bodyS sb f.kind f.body) := by
      unfold chunkS at hch ⊢
      by_cases h1 : s.reset = true ∨ s.ended = true
      · rw [if_pos h1] at hch; simp at hch
      · rw [if_neg h1] at hch ⊢
        have hre : s.reset = false := by cases hh : s.reset; rfl; exact absurd (.inl hh) h1
        have hen : s.ended = false := by cases hh : s.ended; rfl; exact absurd (.inr hh) h1
        have hsb1 : sb.over = false := by rw [r.over]; exact hen
        have hsb2 : sb.reset = false := by rw [r.rst]; exact hre
        by_cases h2 : 0 < most64 s
        · rw [if_pos h2] at hch ⊢
          obtain ⟨l1, l2, l3⟩ := most64_le s
          have htl : (s.out.take (most64 s)).length = most64 s := by rw [List.length_take]; omega
          refine ⟨⟨1, s.id, s.out.take (most64 s)⟩, ⟨(by decide : (1 : Nat) < 256), by simp only; omega, by simp only; omega⟩, rfl, ?_, ?_⟩
          · refine stepL_iff.2 (.inr ⟨by simp, by simp, by simp, i, sb, hfind, hB, bodyE_iff.2 ⟨?_, ?_, ?_, ?_⟩, rfl⟩)
            · rw [hsb1]; simp
            · simp only [true_and]
              rintro (hh | hh | hh)
              · rcases hh with hh | hh
                · have := congrArg List.length hh; rw [htl] at this; simp at this; omega
                · omega
              · simp at hh
              · simp at hh
            · rintro ⟨_, hh⟩
              simp only at hh
              have := r.win
              omega
            · simp
          · unfold bodyS
            rw [if_pos rfl, hsb2]
            simp only [Bool.false_eq_true, if_false, htl]
            have hrw := r.win
            have hrr := r.room
            refine ⟨r.hd, r.rs, r.en, r.id, r.head, ?_, ?_, ?_, r.over, ?_, by simp only; rw [hre], r.inn, r.tak, r.ovr, r.rmm⟩
            · simp only
              rw [r.txt]; simp only [List.append_assoc, List.take_append_drop]
            · simp only; omega
            · simp only [List.length_append, htl]; omega
            · simp only; rw [hen]; intro hh; cases hh
        · rw [if_neg h2] at hch ⊢
          by_cases h3 : s.ends = true ∧ s.out = []
          · rw [if_pos h3] at hch ⊢
            refine ⟨⟨3, s.id, []⟩, ⟨(by decide : (3 : Nat) < 256), by simp only; omega, by simp⟩, rfl, ?_, ?_⟩
            · refine stepL_iff.2 (.inr ⟨by simp, by simp, by simp, i, sb, hfind, hB, bodyE_iff.2 ⟨?_, ?_, ?_, ?_⟩, rfl⟩)
              · rw [hsb1]; simp
              · simp
              · simp
              · simp
            · unfold bodyS
              rw [if_neg (by simp), if_pos rfl]
              exact ⟨r.hd, r.rs, r.en, r.id, r.head, r.txt, r.win, r.room, rfl, fun _ => h3.2, r.rst, r.inn, r.tak, r.ovr, r.rmm⟩
          · rw [if_neg h3] at hch; simp at hch
    obtain ⟨f, fok, fenc, fst, fr⟩ := key
    have hcid := chunk_id s
    refine ⟨F ++ [f], B.set i (bodyS sb f.kind f.body), { j with n := ?_, ids := ?_, wireF := ?_, okF := ?_, appF := ?_, lenB := ?_, rel := ?_ }⟩
    · simp only [List.length_set]; exact j.n
    · intro k u hu
      simp only at hu
      by_cases hik : i = k
      · subst hik; rw [List.getElem?_set_self hil] at hu; cases hu; rw [hcid]; exact hid
      · rw [List.getElem?_set_ne hik] at hu; exact j.ids k u hu
    · have := j.wireF
      rw [hr, hc] at this
      simp only [List.nil_append, List.append_nil] at this
      simp only [hc, List.append_nil]
      rw [encF_app, encF_cons, encF_nil, List.append_nil, ← this, fenc, List.append_assoc]
    · intro g hg
      rcases List.mem_append.1 hg with hg | hg
      · exact j.okF g hg
      · rw [List.mem_singleton] at hg; subst hg; exact fok
    · refine appL_app F [f] b.streams B _ j.appF ?_
      rw [appL, fst]; rfl
    · rw [List.length_set]; exact j.lenB
    · intro k sa' sb' t' h1 h2 h3
      simp only at h1
      by_cases hik : i = k
      · subst hik
        rw [List.getElem?_set_self hil] at h1; cases h1
        rw [List.getElem?_set_self hiB] at h2; cases h2
        rw [hT] at h3; cases h3
        exact fr
      · rw [List.getElem?_set_ne hik] at h1 h2
        exact j.rel k sa' sb' t' h1 h2 h3
theorem J.outA : ∀ (k : Nat) {x : List UInt8} {a : MuxS} {F : List Fr} {B : List Strm}, J w T R x y a b F B G → ∃ F' B', J w T R (x ++ (outB k a).1) y (outB k a).2 b F' B' G := by
  intro k
  induction k with
  | zero => intro x a F B j; exact ⟨F, B, by simp only [outB, List.append_nil]; exact j⟩
  | succ k ih =>
    intro x a F B j
    rcases outB_next (m := a) k with ⟨h1, h2⟩ | ⟨m1, c, r, h1, h2, h3⟩
    · rw [h2]; exact ⟨F, B, by simp only [List.append_nil]; exact j⟩
    · rw [h3]
      have hj1 : ∃ F1 B1, J w T R x y m1 b F1 B1 G := by
        rcases ready_or h1 with rfl | ⟨hr, hf⟩
        · exact ⟨F, B, j⟩
        · exact j.fill hr hf
      obtain ⟨F1, B1, j1⟩ := hj1
      have j2 : J w T R (x ++ [c]) y { m1 with ready := r } b F1 B1 G := by
        refine { j1 with wireF := ?_, ids := j1.ids }
        have := j1.wireF
        rw [h2] at this
        simpa using this
      obtain ⟨F2, B2, j3⟩ := ih j2
      refine ⟨F2, B2, ?_⟩
      rw [List.append_assoc] at j3
      exact j3
end
end Go.Abs
/- Mx20: two joined ends, on lists: receiving, reading. Conditions: none. -/
set_option maxRecDepth 100000
set_option linter.unusedSimpArgs false
set_option linter.unusedVariables false
namespace Go.Abs
open Go.Proofs
theorem bk_body {w : Nat} {s : Strm} {kind : Nat} {body : List UInt8} (q2 : kind ≠ 2) (q1 : 1 ≤ kind) (q5 : kind ≤ 5) (h : BK w s) (hb : bodyE (mk false w []) s kind body = 0) : BK w (bodyS s kind body) := by
  obtain ⟨e1, e2, e3, e4⟩ := bodyE_iff.1 hb
  obtain ⟨k1, k2, k3, k4, k5⟩ := h
  unfold bodyS
  split
  · rename_i h1
    refine ⟨k1, ?_, k3, k4, k5⟩
    have : body.length ≤ s.room := by
      by_cases hh : s.room < body.length
      · exact absurd ⟨h1, hh⟩ e3
      · omega
    simp only
    split
    · omega
    · rw [List.length_append]; omega
  · split
    · exact ⟨k1, k2, k3, k4, fun h => by cases h⟩
    · split
      · refine ⟨k1, ?_, rfl, k4, fun _ h => by cases h⟩
        simp only [List.length_nil]; omega
      · rename_i h1 h3 h4
        refine ⟨?_, k2, k3, k4, k5⟩
        simp only
        have h5 : kind = 5 := by omega
        by_cases hh : (mk false w []).window < s.window + two body
        · exact absurd ⟨h5, .inr hh⟩ e4
        · have : (mk false w []).window = w := rfl
          omega
theorem bk_new {w : Nat} (h1 : 1 ≤ w) (id : Nat) (head : List UInt8) : BK w (newStrm (mk false w []) id head) :=
  ⟨Nat.le_refl _, by simp [newStrm, mk], rfl, rfl, fun _ _ => by simp only [newStrm]; omega⟩
theorem bk_quiet {w : Nat} {s : Strm} (h : BK w s) : (chunkS s).1 = [] := by
  unfold chunkS
  split
  · rfl
  · rw [if_neg (by unfold most64; rw [h.out]; simp), if_neg (by rw [h.ends]; simp)]
theorem encF_short {F : List Fr} {g : List UInt8} (h : g = encF F) (hs : ∀ f F3, F = f :: F3 → g.length < 5 + f.body.length) : g = [] ∧ F = [] := by
  cases F with
  | nil => exact ⟨h, rfl⟩
  | cons f F =>
    have h1 := hs f F rfl
    rw [h, encF_cons, List.length_append, enc_len] at h1
    omega
section
variable {w : Nat} {T : List Pl} {R : List (List UInt8)} {x y : List UInt8} {a b : MuxS} {F : List Fr} {B : List Strm} {G : List Fr}
theorem short_le {F : List Fr} {g rest : List UInt8} (ok : ∀ f, f ∈ F → f.ok) (h : g ++ rest = encF F) (hs : ∀ f F3, F = f :: F3 → g.length < 5 + f.body.length) : g.length ≤ 600 := by
  cases F with
  | nil =>
    have := congrArg List.length h
    rw [encF_nil, List.length_append] at this
    simp at this
    simp [this.1]
  | cons f F =>
    have := hs f F rfl
    have := (ok f (by simp)).2.2
    omega
/-- The second end receives. -/
theorem J.inB (j : J w T R x y a b F B G) (hx : x.length ≤ 4096) : ∃ ss g F', inS b x = (0, { b with streams := ss, got := g }) ∧ J w T R [] y a { b with streams := ss, got := g } F' B G ∧ (a.ready = [] → a.control = [] → g = [] ∧ F' = []) ∧ ∃ F1, appL false w b.streams F1 = some ss := by
  have hwire := j.wireF
  rw [← List.append_assoc] at hwire
  obtain ⟨F1, F2, ss, g, q1, q2, q3, q4, q5, q6⟩ := in_step (b.got.length + x.length) { b with got := b.got ++ x } F (a.ready ++ a.control) B (by simp) j.okF hwire (by rw [j.bf, j.bw]; exact j.appF)
  simp only [j.bf, j.bw] at q2 q3
  have ok2 : ∀ f, f ∈ F2 → f.ok := fun f hf => j.okF f (by rw [q1]; simp [hf])
  refine ⟨ss, g, F2, ?_, { j with wireF := by simpa using q5, okF := ok2, appF := q3, bk := ?_, rl := ?_, bg := short_le ok2 q5 q6 }, fun h1 h2 => ?_, F1, q2⟩
  · unfold inS
    rw [if_neg (by rw [j.bb]; simp), if_neg (by omega), q4]
  · exact appL_keep (BK w) (bk_new j.w1) (fun s kind body h2 h1 h5 => bk_body h2 h1 h5) F1 b.streams ss q2 j.bk
  · exact Nat.le_trans j.rl (appL_get F1 b.streams ss q2).1
  · rw [h1, h2] at q5
    simp only [List.append_nil] at q5
    exact encF_short q5 q6
theorem gok_ok {n : Nat} (hn : n ≤ 16) {f : Fr} (h : GOk n f) : f.ok := by
  obtain ⟨h1, ⟨i, h2, h3⟩, h4, _⟩ := h
  exact ⟨by omega, by omega, by omega⟩
theorem J.grants (j : J w T R x y a b F B G) : ∀ s, s ∈ a.streams → s.window + gsum G s.id ≤ w := by
  intro s hs
  obtain ⟨i, hi⟩ := List.getElem?_of_mem hs
  obtain ⟨sb, t, h1, h2, r⟩ := j.at hi
  have := r.win
  have := r.room
  omega
/-- The first end receives. -/
theorem J.inA (j : J w T R x y a b F B G) (hy : y.length ≤ 4096) : ∃ G1 g G', G = G1 ++ G' ∧ inS a y = (0, { a with streams := a.streams.map (addW G1), got := g }) ∧ J w T R x [] { a with streams := a.streams.map (addW G1), got := g } b F B G' ∧ (b.ready = [] → b.control = [] → g = [] ∧ G' = []) := by
  have hwire := j.wireG
  rw [← List.append_assoc] at hwire
  have hgr := j.grants
  have hall := appG G a.streams (by rw [j.n]; exact j.okG) j.ids hgr
  obtain ⟨F1, F2, ss, g, q1, q2, q3, q4, q5, q6⟩ := in_step (a.got.length + y.length) { a with got := a.got ++ y } G (b.ready ++ b.control) _ (by simp) (fun f hf => gok_ok j.n16 (j.okG f hf)) hwire (by rw [j.af, j.aw]; exact hall)
  simp only [j.af, j.aw] at q2 q3
  have ok1 : ∀ f, f ∈ F1 → GOk T.length f := fun f hf => j.okG f (by rw [q1]; simp [hf])
  have ok2 : ∀ f, f ∈ F2 → GOk T.length f := fun f hf => j.okG f (by rw [q1]; simp [hf])
  have hss := appG (w := w) F1 a.streams (by rw [j.n]; exact ok1) j.ids (fun s hs => by have := hgr s hs; rw [q1, gsum_app] at this; omega)
  rw [q2] at hss
  obtain rfl := Option.some.inj hss
  refine ⟨F1, g, F2, q1, ?_, { j with n := ?_, ids := ?_, wireG := by simpa using q5, okG := ok2, rel := ?_, ag := short_le (fun f hf => gok_ok j.n16 (ok2 f hf)) q5 q6 }, fun h1 h2 => ?_⟩
  · unfold inS
    rw [if_neg (by rw [j.ab]; simp), if_neg (by omega), q4]
  · simp only [List.length_map]; exact j.n
  · intro i s hs
    obtain ⟨s0, h1, rfl⟩ := mapget hs
    exact j.ids i s0 h1
  · intro i sa sb t h1 h2 h3
    obtain ⟨s0, h4, rfl⟩ := mapget h1
    have r := j.rel i s0 sb t h4 h2 h3
    refine { r with win := ?_ }
    have := r.win
    rw [q1, gsum_app] at this
    simp only [addW]; omega
  · rw [h1, h2] at q5
    simp only [List.append_nil] at q5
    exact encF_short q5 q6
/-! ### reading -/
def talkL (L : List (List UInt8)) (k : Nat) (z : List UInt8) : List (List UInt8) :=
  if k < (if k = L.length then L ++ [[]] else L).length then (if k = L.length then L ++ [[]] else L).set k (rd (if k = L.length then L ++ [[]] else L) k ++ z) else (if k = L.length then L ++ [[]] else L)
theorem talkL_spec {L : List (List UInt8)} {k : Nat} (z : List UInt8) (hk : k ≤ L.length) : (talkL L k z).length = max L.length (k + 1) ∧ rd (talkL L k z) k = rd L k ++ z ∧ ∀ i, i ≠ k → rd (talkL L k z) i = rd L i := by
  unfold talkL
  by_cases h : k = L.length
  · simp only [if_pos h]
    rw [if_pos (by simp; omega)]
    have e : rd (L ++ [[]]) k = [] := by unfold rd; rw [List.getElem?_append_right (by omega), h, Nat.sub_self]; rfl
    have e2 : rd L k = [] := by unfold rd; rw [List.getElem?_eq_none (by omega)]; rfl
    rw [e, e2]
    refine ⟨by simp; omega, ?_, fun i hi => ?_⟩
    · unfold rd; rw [List.getElem?_set_self (by simp; omega)]; rfl
    · unfold rd
      rw [List.getElem?_set_ne (fun e => hi e.symm)]
      by_cases hil : i < L.length
      · rw [List.getElem?_append_left hil]
      · rw [List.getElem?_eq_none (by simp; omega), List.getElem?_eq_none (by omega)]
  · simp only [if_neg h]
    have hlt : k < L.length := by omega
    rw [if_pos hlt]
    refine ⟨by rw [List.length_set]; omega, ?_, fun i hi => ?_⟩
    · unfold rd; rw [List.getElem?_set_self hlt]; rfl
    · unfold rd; rw [List.getElem?_set_ne (fun e => hi e.symm)]
def txt (T : List Pl) (i : Nat) : List UInt8 := ((T[i]?).map Pl.text).getD []
/-- How many bytes are not yet read. -/
def left (T : List Pl) (R : List (List UInt8)) : Nat := ((List.range T.length).map fun i => (txt T i).length - (rd R i).length).sum
theorem sum_upd (f g : Nat → Nat) (i d : Nat) : ∀ n, i < n → (∀ k, k ≠ i → g k = f k) → g i + d = f i → ((List.range n).map g).sum + d = ((List.range n).map f).sum := by
  have same : ∀ n, n ≤ i → (∀ k, k ≠ i → g k = f k) → ((List.range n).map g).sum = ((List.range n).map f).sum := by
    intro n hn h
    congr 1
    refine List.map_congr_left fun k hk => h k ?_
    rw [List.mem_range] at hk; omega
  intro n
  induction n with
  | zero => intro h; omega
  | succ n ih =>
    intro h1 h2 h3
    rw [List.range_succ, List.map_append, List.map_append, List.sum_append, List.sum_append]
    simp only [List.map_cons, List.map_nil, List.sum_cons, List.sum_nil]
    by_cases hi : i = n
    · subst hi
      rw [same i (Nat.le_refl _) h2]; omega
    · have := ih (by omega) h2 h3
      rw [h2 n (fun e => hi e.symm)]
      omega
theorem two_ofNat {n : Nat} (h : n < 65536) : two [UInt8.ofNat (n / 256), UInt8.ofNat n] = n := by
  unfold two
  simp only [List.getElem?_cons_zero, List.getElem?_cons_succ, Option.getD_some, UInt8.toNat_ofNat']
  omega
theorem rdS_eq1 (s : Strm) (n : Nat) : { s with inn := s.inn.drop n, taken := s.taken + n } = rdS n 0 (s.taken + n) s := rfl
theorem rdS_eq2 (s : Strm) (n : Nat) : { s with inn := s.inn.drop n, taken := 0, room := s.room + (s.taken + n) } = rdS n (s.taken + n) 0 s := rfl
theorem J.readB (j : J w T R x y a b F B G) {i : Nat} {s : Strm} (hs : b.streams[i]? = some s) (hi : i ≤ R.length) :
    ∃ B' G', J w T (talkL R i s.inn) x y a (readM b i s s.id s.inn.length) F B' G' ∧ (readM b i s s.id s.inn.length).control.length + 7 * left T (talkL R i s.inn) ≤ b.control.length + 7 * left T R ∧ (readM b i s s.id s.inn.length).ready = b.ready ∧
      (readM b i s s.id s.inn.length).streams.length = b.streams.length ∧ (∃ s', (readM b i s s.id s.inn.length).streams[i]? = some s' ∧ s'.inn = []) ∧ ∀ k, k ≠ i → (readM b i s s.id s.inn.length).streams[k]? = b.streams[k]? := by
  obtain ⟨n, hn⟩ : ∃ n, s.inn.length = n := ⟨_, rfl⟩
  rw [hn]
  have hil := (List.getElem?_eq_some_iff.1 hs).1
  have hlb := j.lenb
  obtain ⟨sa, hsa⟩ : ∃ sa, a.streams[i]? = some sa := ⟨_, List.getElem?_eq_getElem (by have := j.n; omega)⟩
  obtain ⟨sb0, t, hB, hT, r⟩ := j.at hsa
  have bks := j.bk s (List.mem_of_getElem? hs)
  obtain ⟨sb, hsb, af⟩ := (appL_get F b.streams B j.appF).2 i s hs
  rw [hB] at hsb; cases hsb
  have htr := j.tr t (List.mem_of_getElem? hT)
  -- what is read now stands at the front of what will be there
  have hinn : ∃ d, sb0.inn = s.inn ++ d := by
    cases hre : sb0.reset with
    | false => exact af.inn hre
    | true =>
      have h1 : t.text = [] := htr.1 (by rw [← r.rs, ← r.rst, hre])
      have h2 := r.txt
      rw [h1] at h2
      have h3 : sb0.inn = [] := by
        have := congrArg List.length h2
        simp at this
        exact List.length_eq_zero_iff.1 (by omega)
      have h4 := r.room
      rw [h3, af.taken] at h4
      have h5 := bks.sum
      have h6 := af.room
      simp only [List.length_nil] at h4
      have h7 : s.inn.length = 0 := by omega
      exact ⟨[], by rw [h3, List.length_eq_zero_iff.1 h7]; rfl⟩
  obtain ⟨d, hd⟩ := hinn
  have hdrop : sb0.inn.drop n = d := by rw [hd, ← hn, List.drop_left']
                                        rfl
  obtain ⟨t1, t2, t3⟩ := talkL_spec s.inn hi
  have hBl := (List.getElem?_eq_some_iff.1 hB).1
  have hTl := (List.getElem?_eq_some_iff.1 hT).1
  have hleft : left T (talkL R i s.inn) + n = left T R := by
    unfold left
    refine sum_upd _ _ i n T.length hTl (fun k hk => by rw [t3 k hk]) ?_
    have : txt T i = t.text := by unfold txt; rw [hT]; rfl
    rw [this, t2, r.txt]
    simp only [List.length_append, hd, hn]
    omega
  have hlen2 : (talkL R i s.inn).length ≤ b.streams.length := by rw [t1]; have := j.rl; omega
  have wl := bks.sum
  have hw2 := j.w2
  have hidlt : s.id = 2 * i + 1 := j.idsb i s hs
  have main : ∀ rr tt : Nat, rr + tt = s.taken + n → ∀ (ctl : List UInt8) (G' : List Fr), (∀ f, f ∈ G' → GOk T.length f) → a.got ++ (y ++ (b.ready ++ ctl)) = encF G' → (∀ id, gsum G' id = gsum G id + if s.id = id then rr else 0) → (s.over = false → s.reset = false → 2 * tt < w) →
      ∃ B', J w T (talkL R i s.inn) x y a { b with streams := b.streams.set i (rdS n rr tt s), control := ctl } F B' G' := by
    intro rr tt hrt ctl G' hG' hwG hgs htk
    obtain ⟨s2, hs2, happ⟩ := appL_rd (r := rr) (t := tt) F b.streams B s j.appF hs (.inl (by omega : n ≤ s.inn.length))
    rw [hB] at hs2; cases hs2
    refine ⟨B.set i (rdS n rr tt sb0), { j with appF := happ, wireG := hwG, okG := hG', lenB := ?_, rel := ?_, bk := ?_, rl := ?_ }⟩
    · rw [List.length_set]; exact j.lenB
    · intro k sa' sb' t' h1 h2 h3
      by_cases hik : i = k
      · subst hik
        rw [List.getElem?_set_self hBl] at h2
        rw [hsa] at h1; rw [hT] at h3
        cases h1; cases h2; cases h3
        refine { hd := r.hd, rs := r.rs, en := r.en, id := r.id, head := r.head, txt := ?_, win := ?_, room := ?_, over := r.over, end1 := r.end1, rst := r.rst, inn := r.inn, tak := r.tak, ovr := r.ovr, rmm := r.rmm }
        · simp only [rdS]
          rw [t2, hdrop, r.txt, hd]
          simp only [List.append_assoc]
        · simp only [rdS]
          have h1 := r.win
          have h2 := hgs sa.id
          rw [if_pos (by rw [← r.id, af.id])] at h2
          omega
        · simp only [rdS]
          have h1 := r.room
          have h2 := af.taken
          rw [hdrop]
          rw [hd, List.length_append] at h1
          omega
      · rw [List.getElem?_set_ne hik] at h2
        have r2 := j.rel k sa' sb' t' h1 h2 h3
        have h4 := j.ids k sa' h1
        have h5 := hgs sa'.id
        rw [if_neg (by omega)] at h5
        rw [t3 k (fun e => hik e.symm)]
        exact { r2 with win := by have := r2.win; omega }
    · intro u hu
      simp only at hu
      rcases List.mem_or_eq_of_mem_set hu with hu | rfl
      · exact j.bk u hu
      · refine ⟨bks.win, ?_, bks.out, bks.ends, htk⟩
        simp only [rdS, List.length_drop]
        omega
    · simp only [List.length_set]; exact hlen2
  have hset : ∀ (z : Strm) (ctl : List UInt8) (m : MuxS), z.inn = [] → m = { b with streams := b.streams.set i z, control := ctl } → m.ready = b.ready ∧ m.streams.length = b.streams.length ∧ (∃ s', m.streams[i]? = some s' ∧ s'.inn = []) ∧ ∀ k, k ≠ i → m.streams[k]? = b.streams[k]? := by
    rintro z ctl m hz rfl
    exact ⟨rfl, List.length_set, ⟨z, List.getElem?_set_self hil, hz⟩, fun k hk => List.getElem?_set_ne (fun e => hk e.symm)⟩
  have hdn : s.inn.drop n = [] := List.drop_of_length_le (by omega)
  unfold readM
  by_cases hg : readG b s n
  · rw [if_pos hg, rdS_eq2]
    obtain ⟨g1, g2, g3⟩ := hg
    rw [j.bw] at g1
    have hn1 : 1 ≤ n := by
      have := bks.tk g2 g3
      omega
    have htw := two_ofNat (n := s.taken + n) (by omega)
    have hfr : GOk T.length ⟨5, s.id, [UInt8.ofNat ((s.taken + n) / 256), UInt8.ofNat (s.taken + n)]⟩ := ⟨rfl, ⟨i, by omega, hidlt⟩, rfl, by simp only; rw [htw]; omega⟩
    obtain ⟨B', jB⟩ := main (s.taken + n) 0 (by omega) (b.control ++ frameS 5 s.id [UInt8.ofNat ((s.taken + n) / 256), UInt8.ofNat (s.taken + n)]) (G ++ [⟨5, s.id, [UInt8.ofNat ((s.taken + n) / 256), UInt8.ofNat (s.taken + n)]⟩])
      (fun f hf => by
        rcases List.mem_append.1 hf with hf | hf
        · exact j.okG f hf
        · rw [List.mem_singleton] at hf; subst hf; exact hfr)
      (by
        rw [encF_app, ← j.wireG, encF_cons, encF_nil]
        simp only [Fr.enc, List.append_assoc, List.append_nil])
      (fun id => by
        rw [gsum_app, gsum_cons, gsum_nil, htw]; simp)
      (fun _ _ => by have := j.w1; omega)
    refine ⟨B', _, jB, ?_, hset _ _ _ (by simp only [rdS]; exact hdn) rfl⟩
    simp only [List.length_append, frameS_len, List.length_cons, List.length_nil]
    omega
  · rw [if_neg hg, rdS_eq1]
    obtain ⟨B', jB⟩ := main 0 (s.taken + n) (by omega) b.control G j.okG j.wireG (fun id => by simp) (fun h1 h2 => by
      by_cases h3 : w ≤ 2 * (s.taken + n)
      · exact absurd ⟨by rw [j.bw]; exact h3, h1, h2⟩ hg
      · omega)
    refine ⟨B', G, jB, ?_, hset _ b.control _ (by simp only [rdS]; exact hdn) rfl⟩
    simp only
    omega
end
end Go.Abs
