/- MuxWindow, part 4 of 6: what the proof of the law rests on. Conditions: none. -/
import Derived.Test.YtknhmkijmbcnhaaJMuxWindow3
import Derived.Shelf.Strings.Builder1
import Derived.Shelf.Strings.Builder2
import Derived.Shelf.Strings.BuilderF
import Derived.Shelf.Strings.Prefix
import Derived.Shelf.Bits.Mul64
import Derived.Shelf.Strings.Repeat
import Derived.Test.YtknhmkijmbcnhaaProg
import Derived.Test.YtknhmkijmbcnhaaRows
set_option linter.unusedSimpArgs false
set_option linter.unusedVariables false
/- Mx3: the walks of the multiplexer: a stream added behind all others; Open, Write, Finish, New. Conditions: none. -/
set_option maxRecDepth 100000
set_option linter.unusedSimpArgs false
set_option linter.unusedVariables false
namespace Go.Abs
open Go.Proofs
theorem allPtr (l : List Nat) : (l.map ptrC).all oneCellA = true := List.all_eq_true.2 fun v hv => by
  obtain ⟨b, _, rfl⟩ := List.mem_map.1 hv
  rfl
/-- A pointer put behind all others. -/
theorem insert_q {h : AHeap} {sb : Option Nat} {ids : List Nat} (vb b0 : Nat) (hsl : (sb = none ∧ ids = []) ∨ ∃ b, sb = some b ∧ blkA h b = some ⟨ids.map ptrC, 1, false⟩) (hl : ids.length < 2 ^ 40) (hv : blkA h vb = some ⟨[ptrC b0], 1, false⟩) :
    FW cx 43 [.slice (slA sb) ids.length ids.length, .int .i64 ids.length, .slice (some ⟨vb, 0, none⟩) 1 1] h fun v h' => ∃ nb, v = .slice (some ⟨nb, 0, none⟩) (ids.length + 1) (ids.length + 1) ∧ h.length ≤ nb ∧ blkA h' nb = some ⟨(ids ++ [b0]).map ptrC, 1, false⟩ ∧ Upd h h' sb.toList [nb] := by
  refine FW_f Try.func43 rfl (by decide +kernel) ?_
  rcases hsl with ⟨rfl, rfl⟩ | ⟨b, rfl, hb⟩
  · simp -dsimp -implicitDefEqProofs (disch := first | omega | (simp only [stT, u_3, ag_3, sz_3, by_3, ze_3, es_3, u_4, ag_4, sz_4, by_4, ze_4, bo_4, es_4, u_53, ag_53, sz_53, by_53, ze_53, es_53, u_57, ag_57, sz_57, by_57, ze_57, es_57]; done) | (simp only [List.append_assoc, List.cons_append, List.nil_append, pre_n, pre_c, pre_a, pre_g, pre_r]; done) | (simp only [List.length_set]; done) | (simp only [List.length_set]; omega) | assumption | decide +kernel | fail) only [↓RP, RQ, isConstA, Nat.reduceEqDiff, Nat.reduceLT, Nat.reduceAdd, Int.reduceNeg, Int.reduceLT, Int.reduceLE, Int.reduceToNat, Int.reduceEq, ↓reduceIte, ite_true, ite_false, Option.toList, Nat.reduceMul, Nat.reduceSub, Nat.reduceLeDiff, ne_eq, eq_self, u_3, ag_3, sz_3, by_3, ze_3, es_3, u_4, ag_4, sz_4, by_4, ze_4, bo_4, es_4, u_53, ag_53, sz_53, by_53, ze_53, es_53, u_57, ag_57, sz_57, by_57, ze_57, es_57, ↓AW_loop, hv, slA, Option.map_none]
    refine ⟨h.length, rfl, Nat.le_refl _, blkA_new _ _, (Upd.app _ _ _).to fun q hq => ?_⟩
    simp at hq; subst hq; exact .inr (Nat.le_refl _)
  · have htk : (ids.map ptrC).take ids.length = ids.map ptrC := takeMap _ _
    simp -dsimp -implicitDefEqProofs (disch := first | omega | (simp only [stT, u_3, ag_3, sz_3, by_3, ze_3, es_3, u_4, ag_4, sz_4, by_4, ze_4, bo_4, es_4, u_53, ag_53, sz_53, by_53, ze_53, es_53, u_57, ag_57, sz_57, by_57, ze_57, es_57]; done) | (simp only [List.append_assoc, List.cons_append, List.nil_append, pre_n, pre_c, pre_a, pre_g, pre_r]; done) | (simp only [List.length_set]; done) | (simp only [List.length_set]; omega) | assumption | decide +kernel | fail) only [↓RP, RQ, isConstA, Nat.reduceEqDiff, Nat.reduceLT, Nat.reduceAdd, Int.reduceNeg, Int.reduceLT, Int.reduceLE, Int.reduceToNat, Int.reduceEq, ↓reduceIte, ite_true, ite_false, Option.toList, Nat.reduceMul, Nat.reduceSub, Nat.reduceLeDiff, ne_eq, eq_self, u_3, ag_3, sz_3, by_3, ze_3, es_3, u_4, ag_4, sz_4, by_4, ze_4, bo_4, es_4, u_53, ag_53, sz_53, by_53, ze_53, es_53, u_57, ag_57, sz_57, by_57, ze_57, es_57, ↓AW_loop, hv, hb, slA, Option.map_some, allPtr, ptrC]
    (repeat (refine And.intro (by omega) ?_))
    have hbl := blkA_lt hb
    refine ⟨h.length, rfl, Nat.le_refl _, ?_, (((Upd.refl h [b]).set (by simp)).more _).to fun q hq => ?_⟩
    · have := blkA_moved h b none ⟨(ids ++ [b0]).map ptrC, 1, false⟩
      rw [← this]
      simp only [List.map_append, List.map_cons, List.map_nil, ptrC]
    · simp at hq; subst hq; exact .inr (Nat.le_refl _)
theorem id_of : ¬ False := id
def newStrm (m : MuxS) (id : Nat) (head : List UInt8) : Strm := ⟨id, head, [], [], m.window, m.window, 0, false, false, false, false⟩
theorem add1_q (s : Strm) (id : Nat) {h : AHeap} {b c : Nat} (hb : blkA h b = some ⟨strmC s, 11, false⟩) (hc : blkA h c = some ⟨[.int .i64 id], 1, false⟩) : Quiet cx 42 [ptrC b, .pointer (some ⟨c, 0, none⟩)] h (.bool (decide (id < s.id))) := by
  unfold ptrC
  refine FW_f Try.func42 rfl (by decide +kernel) ?_
  have e : decide ((id : Int) < s.id) = decide (id < s.id) := by congr 1; exact propext (by omega)
  simp -dsimp -implicitDefEqProofs (disch := first | omega | (simp only [stT, u_0, ag_0, sz_0, by_0, ze_0, es_0, u_3, ag_3, sz_3, by_3, ze_3, es_3, u_4, ag_4, sz_4, by_4, ze_4, bo_4, es_4, u_9, ag_9, sz_9, by_9, ze_9, es_9, u_57, ag_57, sz_57, by_57, ze_57, es_57, u_63, f_63_0, f_63_1, f_63_2, f_63_3, f_63_4, f_63_5, f_63_6, f_63_7, f_63_8, f_63_9, f_63_10, ag_63, sz_63, by_63, ze_63, pl_63, es_63]; done) | (simp only [List.append_assoc, List.cons_append, List.nil_append, pre_n, pre_c, pre_a, pre_g, pre_r]; done) | (simp only [List.length_set]; done) | (simp only [List.length_set]; omega) | assumption | decide +kernel | fail) only [↓RP, RQ, isConstA, Nat.reduceEqDiff, Nat.reduceLT, Nat.reduceAdd, Int.reduceNeg, Int.reduceLT, Int.reduceLE, Int.reduceToNat, Int.reduceEq, ↓reduceIte, ite_true, ite_false, Option.toList, Nat.reduceMul, Nat.reduceSub, Nat.reduceLeDiff, ne_eq, eq_self, u_0, ag_0, sz_0, by_0, ze_0, es_0, u_3, ag_3, sz_3, by_3, ze_3, es_3, u_4, ag_4, sz_4, by_4, ze_4, bo_4, es_4, u_9, ag_9, sz_9, by_9, ze_9, es_9, u_57, ag_57, sz_57, by_57, ze_57, es_57, u_63, f_63_0, f_63_1, f_63_2, f_63_3, f_63_4, f_63_5, f_63_6, f_63_7, f_63_8, f_63_9, f_63_10, ag_63, sz_63, by_63, ze_63, pl_63, es_63, ↓AW_loop, hb, hc, strmC, e]
  exact ⟨by decide +kernel, Ext.refl _⟩
theorem ix_none : ∀ (l : List Bool) (k : Nat), (∀ v, v ∈ l → v = false) → ix l k = -1
  | [], _, _ => rfl
  | v :: l, k, h => by rw [h v (by simp)]; exact ix_none l (k + 1) fun v hv => h v (by simp [hv])
/-- A stream whose number is above all others. -/
theorem add_q (m : MuxS) (id : Nat) (head : List UInt8) {h : AHeap} {p : Nat} {sb : Option Nat} {ids : List Nat} (a : MuxAt h p sb ids m) (hl : ids.length < 2 ^ 40) (hid : ∀ s, s ∈ m.streams → s.id < id) :
    FW cx 27 [ptrC p, .int .i64 id, .string (str head)] h fun v h' => ∃ nb b, v = ptrC b ∧ MuxAt h' p (some nb) (ids ++ [b]) { m with streams := m.streams ++ [newStrm m id head] } ∧ Upd h h' (foot p sb ids) (foot p (some nb) (ids ++ [b])) := by
  unfold ptrC
  refine FW_f Try.func27 rfl (by decide +kernel) ?_
  have htX := fun X => blkA_app X a.top
  simp -dsimp -implicitDefEqProofs (disch := first | omega | (simp only [stT, u_1, ag_1, sz_1, by_1, ze_1, es_1, u_3, ag_3, sz_3, by_3, ze_3, es_3, u_4, ag_4, sz_4, by_4, ze_4, bo_4, es_4, u_9, ag_9, sz_9, by_9, ze_9, es_9, u_26, ag_26, sz_26, by_26, ze_26, es_26, u_53, ag_53, sz_53, by_53, ze_53, es_53, u_55, f_55_0, f_55_1, f_55_2, f_55_3, f_55_4, f_55_5, f_55_6, f_55_7, f_55_8, ag_55, sz_55, by_55, ze_55, pl_55, es_55, u_57, ag_57, sz_57, by_57, ze_57, es_57, u_63, f_63_0, f_63_1, f_63_2, f_63_3, f_63_4, f_63_5, f_63_6, f_63_7, f_63_8, f_63_9, f_63_10, ag_63, sz_63, by_63, ze_63, pl_63, es_63, u_83, ag_83, sz_83, by_83, ze_83, es_83]; done) | (simp only [List.append_assoc, List.cons_append, List.nil_append, pre_n, pre_c, pre_a, pre_g, pre_r]; done) | (simp only [List.length_set]; done) | (simp only [List.length_set]; omega) | assumption | decide +kernel | fail) only [↓RP, RQ, isConstA, Nat.reduceEqDiff, Nat.reduceLT, Nat.reduceAdd, Int.reduceNeg, Int.reduceLT, Int.reduceLE, Int.reduceToNat, Int.reduceEq, ↓reduceIte, ite_true, ite_false, Option.toList, Nat.reduceMul, Nat.reduceSub, Nat.reduceLeDiff, ne_eq, eq_self, u_1, ag_1, sz_1, by_1, ze_1, es_1, u_3, ag_3, sz_3, by_3, ze_3, es_3, u_4, ag_4, sz_4, by_4, ze_4, bo_4, es_4, u_9, ag_9, sz_9, by_9, ze_9, es_9, u_26, ag_26, sz_26, by_26, ze_26, es_26, u_53, ag_53, sz_53, by_53, ze_53, es_53, u_55, f_55_0, f_55_1, f_55_2, f_55_3, f_55_4, f_55_5, f_55_6, f_55_7, f_55_8, ag_55, sz_55, by_55, ze_55, pl_55, es_55, u_57, ag_57, sz_57, by_57, ze_57, es_57, u_63, f_63_0, f_63_1, f_63_2, f_63_3, f_63_4, f_63_5, f_63_6, f_63_7, f_63_8, f_63_9, f_63_10, ag_63, sz_63, by_63, ze_63, pl_63, es_63, u_83, ag_83, sz_83, by_83, ze_83, es_83, ↓AW_loop, htX, muxC]
  refine ⟨by decide +kernel, ?_⟩
  have hlen := a.len
  have a1 := a.app [some (.cells ⟨[.int .i64 (id : Int)], 1, false⟩), some (.cells ⟨strmC (newStrm m id head), 11, false⟩)]
  have hc : blkA (h ++ [some (.cells ⟨[.int .i64 (id : Int)], 1, false⟩), some (.cells ⟨strmC (newStrm m id head), 11, false⟩)]) h.length = some ⟨[.int .i64 id], 1, false⟩ := by rw [blkA_at0]; rfl
  have hix : ix (m.streams.map fun s => decide (id < s.id)) 0 = -1 := ix_none _ _ fun v hv => by
    obtain ⟨s, hs, rfl⟩ := List.mem_map.1 hv
    have := hid s hs
    simp; omega
  refine (index_q 42 _ (m.streams.map fun s => decide (id < s.id)) a1.sl (by rw [List.length_map]; exact hlen) hl ?_).use' fun g => ?_
  · intro i b v hb hv g
    obtain ⟨s, hs, rfl⟩ := mapget hv
    exact add1_q s id (blkA_app g (a1.str i s b hs hb)) (blkA_app g hc)
  · rw [hix]
    simp -dsimp -implicitDefEqProofs (disch := first | omega | (simp only [stT, u_1, ag_1, sz_1, by_1, ze_1, es_1, u_3, ag_3, sz_3, by_3, ze_3, es_3, u_4, ag_4, sz_4, by_4, ze_4, bo_4, es_4, u_9, ag_9, sz_9, by_9, ze_9, es_9, u_26, ag_26, sz_26, by_26, ze_26, es_26, u_53, ag_53, sz_53, by_53, ze_53, es_53, u_55, f_55_0, f_55_1, f_55_2, f_55_3, f_55_4, f_55_5, f_55_6, f_55_7, f_55_8, ag_55, sz_55, by_55, ze_55, pl_55, es_55, u_57, ag_57, sz_57, by_57, ze_57, es_57, u_63, f_63_0, f_63_1, f_63_2, f_63_3, f_63_4, f_63_5, f_63_6, f_63_7, f_63_8, f_63_9, f_63_10, ag_63, sz_63, by_63, ze_63, pl_63, es_63, u_83, ag_83, sz_83, by_83, ze_83, es_83]; done) | (simp only [List.append_assoc, List.cons_append, List.nil_append, pre_n, pre_c, pre_a, pre_g, pre_r]; done) | (simp only [List.length_set]; done) | (simp only [List.length_set]; omega) | assumption | decide +kernel | fail) only [↓RP, RQ, isConstA, Nat.reduceEqDiff, Nat.reduceLT, Nat.reduceAdd, Int.reduceNeg, Int.reduceLT, Int.reduceLE, Int.reduceToNat, Int.reduceEq, ↓reduceIte, ite_true, ite_false, Option.toList, Nat.reduceMul, Nat.reduceSub, Nat.reduceLeDiff, ne_eq, eq_self, u_1, ag_1, sz_1, by_1, ze_1, es_1, u_3, ag_3, sz_3, by_3, ze_3, es_3, u_4, ag_4, sz_4, by_4, ze_4, bo_4, es_4, u_9, ag_9, sz_9, by_9, ze_9, es_9, u_26, ag_26, sz_26, by_26, ze_26, es_26, u_53, ag_53, sz_53, by_53, ze_53, es_53, u_55, f_55_0, f_55_1, f_55_2, f_55_3, f_55_4, f_55_5, f_55_6, f_55_7, f_55_8, ag_55, sz_55, by_55, ze_55, pl_55, es_55, u_57, ag_57, sz_57, by_57, ze_57, es_57, u_63, f_63_0, f_63_1, f_63_2, f_63_3, f_63_4, f_63_5, f_63_6, f_63_7, f_63_8, f_63_9, f_63_10, ag_63, sz_63, by_63, ze_63, pl_63, es_63, u_83, ag_83, sz_83, by_83, ze_83, es_83, ↓AW_loop, htX, muxC]
    have aH := a.app (some (.cells ⟨[.int .i64 (id : Int)], 1, false⟩) :: some (.cells ⟨strmC (newStrm m id head), 11, false⟩) :: (g ++ [some (.cells ⟨[ptrC (h.length + 1)], 1, false⟩)]))
    have hvb : blkA (h ++ (some (.cells ⟨[.int .i64 (id : Int)], 1, false⟩) :: some (.cells ⟨strmC (newStrm m id head), 11, false⟩) :: (g ++ [some (.cells ⟨[ptrC (h.length + 1)], 1, false⟩)]))) (h.length + (g.length + 1 + 1)) = some ⟨[ptrC (h.length + 1)], 1, false⟩ := by
      rw [blkA_at, nth_S, nth_S, nth_g0]; rfl
    have hsb : blkA (h ++ (some (.cells ⟨[.int .i64 (id : Int)], 1, false⟩) :: some (.cells ⟨strmC (newStrm m id head), 11, false⟩) :: (g ++ [some (.cells ⟨[ptrC (h.length + 1)], 1, false⟩)]))) (h.length + 1) = some ⟨strmC (newStrm m id head), 11, false⟩ := by
      rw [blkA_at]; rfl
    have uH : Upd h (h ++ (some (.cells ⟨[.int .i64 (id : Int)], 1, false⟩) :: some (.cells ⟨strmC (newStrm m id head), 11, false⟩) :: (g ++ [some (.cells ⟨[ptrC (h.length + 1)], 1, false⟩)]))) (foot p sb ids) (foot p sb ids) := Upd.app _ _ _
    refine FW.mono (insert_q _ (h.length + 1) aH.sl hl hvb) fun v h' hh => ?_
    generalize hHe : h ++ (some (.cells ⟨[.int .i64 (id : Int)], 1, false⟩) :: some (.cells ⟨strmC (newStrm m id head), 11, false⟩) :: (g ++ [some (.cells ⟨[ptrC (h.length + 1)], 1, false⟩)])) = H at *
    have hHl : h.length + 2 ≤ H.length := by rw [← hHe]; simp
    obtain ⟨nb, rfl, hnb, hbnb, hu⟩ := hh
    have hnb : H.length ≤ nb := by rw [← hHe]; exact hnb
    have hu : Upd H h' sb.toList [nb] := by rw [← hHe]; exact hu
    have hnd := a.nd
    rw [List.nodup_cons] at hnd
    have hps : p ∉ sb.toList := fun e => hnd.1 (by simp [e])
    have hp' := hu.blk hps aH.top
    have hpl := a.lt
    have hpl' : p < h'.length := blkA_lt hp'
    simp -dsimp -implicitDefEqProofs (disch := first | omega | (simp only [stT, u_1, ag_1, sz_1, by_1, ze_1, es_1, u_3, ag_3, sz_3, by_3, ze_3, es_3, u_4, ag_4, sz_4, by_4, ze_4, bo_4, es_4, u_9, ag_9, sz_9, by_9, ze_9, es_9, u_26, ag_26, sz_26, by_26, ze_26, es_26, u_53, ag_53, sz_53, by_53, ze_53, es_53, u_55, f_55_0, f_55_1, f_55_2, f_55_3, f_55_4, f_55_5, f_55_6, f_55_7, f_55_8, ag_55, sz_55, by_55, ze_55, pl_55, es_55, u_57, ag_57, sz_57, by_57, ze_57, es_57, u_63, f_63_0, f_63_1, f_63_2, f_63_3, f_63_4, f_63_5, f_63_6, f_63_7, f_63_8, f_63_9, f_63_10, ag_63, sz_63, by_63, ze_63, pl_63, es_63, u_83, ag_83, sz_83, by_83, ze_83, es_83]; done) | (simp only [List.append_assoc, List.cons_append, List.nil_append, pre_n, pre_c, pre_a, pre_g, pre_r]; done) | (simp only [List.length_set]; done) | (simp only [List.length_set]; omega) | assumption | decide +kernel | fail) only [↓RP, RQ, isConstA, Nat.reduceEqDiff, Nat.reduceLT, Nat.reduceAdd, Int.reduceNeg, Int.reduceLT, Int.reduceLE, Int.reduceToNat, Int.reduceEq, ↓reduceIte, ite_true, ite_false, Option.toList, Nat.reduceMul, Nat.reduceSub, Nat.reduceLeDiff, ne_eq, eq_self, u_1, ag_1, sz_1, by_1, ze_1, es_1, u_3, ag_3, sz_3, by_3, ze_3, es_3, u_4, ag_4, sz_4, by_4, ze_4, bo_4, es_4, u_9, ag_9, sz_9, by_9, ze_9, es_9, u_26, ag_26, sz_26, by_26, ze_26, es_26, u_53, ag_53, sz_53, by_53, ze_53, es_53, u_55, f_55_0, f_55_1, f_55_2, f_55_3, f_55_4, f_55_5, f_55_6, f_55_7, f_55_8, ag_55, sz_55, by_55, ze_55, pl_55, es_55, u_57, ag_57, sz_57, by_57, ze_57, es_57, u_63, f_63_0, f_63_1, f_63_2, f_63_3, f_63_4, f_63_5, f_63_6, f_63_7, f_63_8, f_63_9, f_63_10, ag_63, sz_63, by_63, ze_63, pl_63, es_63, u_83, ag_83, sz_83, by_83, ze_83, es_83, ↓AW_loop, hp', muxC]
    refine ⟨nb, h.length + 1, rfl, ⟨?_, ?_, ?_, ?_, ?_⟩, ?_⟩
    · simp only [List.length_append, List.length_cons, List.length_nil]
      exact blk_setB0 hpl'
    · refine .inr ⟨nb, rfl, ?_⟩
      rw [blk_setN0 (by omega)]; exact hbnb
    · simp only [List.length_append, List.length_cons, List.length_nil, hlen]
    · intro i s b h1 h2
      simp only at h1
      by_cases hi : i < ids.length
      · rw [List.getElem?_append_left (by omega)] at h1
        rw [List.getElem?_append_left hi] at h2
        have hbm := List.mem_of_getElem? h2
        rw [blk_setN0 (a.ne h2)]
        refine hu.blk (fun e => ?_) (aH.str i s b h1 h2)
        have h3 := hnd.2
        rw [List.nodup_append] at h3
        exact h3.2.2 b e b hbm rfl
      · have hie : i = ids.length := by
          have := (List.getElem?_eq_some_iff.1 h2).1
          simp at this; omega
        subst hie
        rw [hlen, List.getElem?_append_right (Nat.le_refl _), Nat.sub_self] at h1
        rw [List.getElem?_append_right (Nat.le_refl _), Nat.sub_self] at h2
        simp at h1 h2
        subst h1; subst h2
        rw [blk_setN0 (by omega)]
        refine hu.blk (fun e => ?_) hsb
        have := a.fl (h.length + 1) (by simp [foot]; simp at e; exact .inr (.inl e))
        omega
    · have hfl := a.fl
      have h3 := hnd.2
      rw [List.nodup_append] at h3
      simp only [Option.toList_some, List.cons_append, List.nil_append, List.nodup_cons, List.mem_cons, List.mem_append, List.not_mem_nil, or_false, not_or, List.nodup_append]
      refine ⟨⟨by omega, fun e => hnd.1 (by simp [e]), by omega⟩, ⟨fun e => ?_, by omega⟩, h3.2.1, ⟨⟨id_of, List.nodup_nil⟩, fun x hx y hy => ?_⟩⟩
      · have := hfl nb (by simp [foot, e]); omega
      · have := hfl x (by simp [foot, hx]); omega
    · have u2 : Upd h h' (foot p sb ids) (foot p (some nb) (ids ++ [h.length + 1])) := by
        refine (uH.trans (hu.from (G := foot p sb ids) fun q hq => by simp [foot]; simp at hq; exact .inr (.inl hq))).to fun q hq => ?_
        simp only [foot, Option.toList_some, List.cons_append, List.nil_append, List.mem_cons, List.mem_append, List.not_mem_nil, or_false] at hq
        rcases hq with rfl | rfl | hq | rfl
        · exact .inl (by simp [foot])
        · exact .inr (by omega)
        · exact .inl (by simp [foot, hq])
        · exact .inr (by omega)
      exact u2.set (by simp [foot])
def openS (m : MuxS) (head : List UInt8) : MuxS := { m with next := m.next + 2, streams := m.streams ++ [newStrm m m.next head], control := m.control ++ frameS 2 m.next head }
theorem open_broken (m : MuxS) (head : List UInt8) {h : AHeap} {p : Nat} {sb : Option Nat} {ids : List Nat} (a : MuxAt h p sb ids m) (hb : m.broken = true) : Quiet cx 11 [ptrC p, .string (str head)] h (.tuple #[.int .i64 0, .int .i64 7]) := by
  unfold ptrC
  refine FW_f Try.func11 rfl (by decide +kernel) ?_
  simp -dsimp -implicitDefEqProofs (disch := first | omega | (simp only [stT, u_2, ag_2, sz_2, by_2, ze_2, es_2, u_3, ag_3, sz_3, by_3, ze_3, es_3, u_4, ag_4, sz_4, by_4, ze_4, bo_4, es_4, u_6, ag_6, sz_6, by_6, ze_6, u8_6, es_6, u_8, f_8_0, f_8_1, f_8_2, f_8_3, ag_8, sz_8, by_8, ze_8, pl_8, es_8, u_9, ag_9, sz_9, by_9, ze_9, es_9, u_26, ag_26, sz_26, by_26, ze_26, es_26, u_27, ag_27, sz_27, by_27, ze_27, es_27, u_53, ag_53, sz_53, by_53, ze_53, es_53, u_55, f_55_0, f_55_1, f_55_2, f_55_3, f_55_4, f_55_5, f_55_6, f_55_7, f_55_8, ag_55, sz_55, by_55, ze_55, pl_55, es_55, u_57, ag_57, sz_57, by_57, ze_57, es_57]; done) | (simp only [List.append_assoc, List.cons_append, List.nil_append, pre_n, pre_c, pre_a, pre_g, pre_r]; done) | (simp only [List.length_set]; done) | (simp only [List.length_set]; omega) | assumption | decide +kernel | fail) only [↓RP, RQ, isConstA, Nat.reduceEqDiff, Nat.reduceLT, Nat.reduceAdd, Int.reduceNeg, Int.reduceLT, Int.reduceLE, Int.reduceToNat, Int.reduceEq, ↓reduceIte, ite_true, ite_false, Option.toList, Nat.reduceMul, Nat.reduceSub, Nat.reduceLeDiff, ne_eq, eq_self, u_2, ag_2, sz_2, by_2, ze_2, es_2, u_3, ag_3, sz_3, by_3, ze_3, es_3, u_4, ag_4, sz_4, by_4, ze_4, bo_4, es_4, u_6, ag_6, sz_6, by_6, ze_6, u8_6, es_6, u_8, f_8_0, f_8_1, f_8_2, f_8_3, ag_8, sz_8, by_8, ze_8, pl_8, es_8, u_9, ag_9, sz_9, by_9, ze_9, es_9, u_26, ag_26, sz_26, by_26, ze_26, es_26, u_27, ag_27, sz_27, by_27, ze_27, es_27, u_53, ag_53, sz_53, by_53, ze_53, es_53, u_55, f_55_0, f_55_1, f_55_2, f_55_3, f_55_4, f_55_5, f_55_6, f_55_7, f_55_8, ag_55, sz_55, by_55, ze_55, pl_55, es_55, u_57, ag_57, sz_57, by_57, ze_57, es_57, ↓AW_loop, a.top, muxC, hb]
  exact Ext.refl _
theorem frameS_len (k i : Nat) (b : List UInt8) : (frameS k i b).length = 5 + b.length := by simp [frameS]; omega
theorem open_q (m : MuxS) (head : List UInt8) {h : AHeap} {p : Nat} {sb : Option Nat} {ids : List Nat} (a : MuxAt h p sb ids m) (hb : m.broken = false) (hh : head.length ≤ 512) (hc : countS m true m.streams ≠ 16) (hl : ids.length < 2 ^ 40) (hn : m.next < 2 ^ 40)
    (hct : m.control.length < 2 ^ 40) (hid : ∀ s, s ∈ m.streams → s.id < m.next) :
    FW cx 11 [ptrC p, .string (str head)] h fun v h' => v = .tuple #[.int .i64 m.next, .int .i64 0] ∧ ∃ sb' ids', MuxAt h' p sb' ids' (openS m head) ∧ Upd h h' (foot p sb ids) (foot p sb' ids') := by
  obtain ⟨f, w, nx, ss, ct, rd, tn, gt, br⟩ := m
  have hb : br = false := hb
  subst hb
  simp only at hc hn hct hid
  unfold ptrC
  refine FW_f Try.func11 rfl (by decide +kernel) ?_
  have c1 : ¬ (512 : Int) < head.length := by omega
  simp -dsimp -implicitDefEqProofs (disch := first | omega | (simp only [stT, u_2, ag_2, sz_2, by_2, ze_2, es_2, u_3, ag_3, sz_3, by_3, ze_3, es_3, u_4, ag_4, sz_4, by_4, ze_4, bo_4, es_4, u_6, ag_6, sz_6, by_6, ze_6, u8_6, es_6, u_8, f_8_0, f_8_1, f_8_2, f_8_3, ag_8, sz_8, by_8, ze_8, pl_8, es_8, u_9, ag_9, sz_9, by_9, ze_9, es_9, u_26, ag_26, sz_26, by_26, ze_26, es_26, u_27, ag_27, sz_27, by_27, ze_27, es_27, u_53, ag_53, sz_53, by_53, ze_53, es_53, u_55, f_55_0, f_55_1, f_55_2, f_55_3, f_55_4, f_55_5, f_55_6, f_55_7, f_55_8, ag_55, sz_55, by_55, ze_55, pl_55, es_55, u_57, ag_57, sz_57, by_57, ze_57, es_57]; done) | (simp only [List.append_assoc, List.cons_append, List.nil_append, pre_n, pre_c, pre_a, pre_g, pre_r]; done) | (simp only [List.length_set]; done) | (simp only [List.length_set]; omega) | assumption | decide +kernel | fail) only [↓RP, RQ, isConstA, Nat.reduceEqDiff, Nat.reduceLT, Nat.reduceAdd, Int.reduceNeg, Int.reduceLT, Int.reduceLE, Int.reduceToNat, Int.reduceEq, ↓reduceIte, ite_true, ite_false, Option.toList, Nat.reduceMul, Nat.reduceSub, Nat.reduceLeDiff, ne_eq, eq_self, u_2, ag_2, sz_2, by_2, ze_2, es_2, u_3, ag_3, sz_3, by_3, ze_3, es_3, u_4, ag_4, sz_4, by_4, ze_4, bo_4, es_4, u_6, ag_6, sz_6, by_6, ze_6, u8_6, es_6, u_8, f_8_0, f_8_1, f_8_2, f_8_3, ag_8, sz_8, by_8, ze_8, pl_8, es_8, u_9, ag_9, sz_9, by_9, ze_9, es_9, u_26, ag_26, sz_26, by_26, ze_26, es_26, u_27, ag_27, sz_27, by_27, ze_27, es_27, u_53, ag_53, sz_53, by_53, ze_53, es_53, u_55, f_55_0, f_55_1, f_55_2, f_55_3, f_55_4, f_55_5, f_55_6, f_55_7, f_55_8, ag_55, sz_55, by_55, ze_55, pl_55, es_55, u_57, ag_57, sz_57, by_57, ze_57, es_57, ↓AW_loop, a.top, muxC, c1]
  refine (count_q _ true a hl).use' fun g => ?_
  have c2 : ¬ ((countS ⟨f, w, nx, ss, ct, rd, tn, gt, false⟩ true ss : Nat) : Int) = 16 := by omega
  have htX := fun X => blkA_app X a.top
  have hpl := a.lt
  simp -dsimp -implicitDefEqProofs (disch := first | omega | (simp only [stT, u_2, ag_2, sz_2, by_2, ze_2, es_2, u_3, ag_3, sz_3, by_3, ze_3, es_3, u_4, ag_4, sz_4, by_4, ze_4, bo_4, es_4, u_6, ag_6, sz_6, by_6, ze_6, u8_6, es_6, u_8, f_8_0, f_8_1, f_8_2, f_8_3, ag_8, sz_8, by_8, ze_8, pl_8, es_8, u_9, ag_9, sz_9, by_9, ze_9, es_9, u_26, ag_26, sz_26, by_26, ze_26, es_26, u_27, ag_27, sz_27, by_27, ze_27, es_27, u_53, ag_53, sz_53, by_53, ze_53, es_53, u_55, f_55_0, f_55_1, f_55_2, f_55_3, f_55_4, f_55_5, f_55_6, f_55_7, f_55_8, ag_55, sz_55, by_55, ze_55, pl_55, es_55, u_57, ag_57, sz_57, by_57, ze_57, es_57]; done) | (simp only [List.append_assoc, List.cons_append, List.nil_append, pre_n, pre_c, pre_a, pre_g, pre_r]; done) | (simp only [List.length_set]; done) | (simp only [List.length_set]; omega) | assumption | decide +kernel | fail) only [↓RP, RQ, isConstA, Nat.reduceEqDiff, Nat.reduceLT, Nat.reduceAdd, Int.reduceNeg, Int.reduceLT, Int.reduceLE, Int.reduceToNat, Int.reduceEq, ↓reduceIte, ite_true, ite_false, Option.toList, Nat.reduceMul, Nat.reduceSub, Nat.reduceLeDiff, ne_eq, eq_self, u_2, ag_2, sz_2, by_2, ze_2, es_2, u_3, ag_3, sz_3, by_3, ze_3, es_3, u_4, ag_4, sz_4, by_4, ze_4, bo_4, es_4, u_6, ag_6, sz_6, by_6, ze_6, u8_6, es_6, u_8, f_8_0, f_8_1, f_8_2, f_8_3, ag_8, sz_8, by_8, ze_8, pl_8, es_8, u_9, ag_9, sz_9, by_9, ze_9, es_9, u_26, ag_26, sz_26, by_26, ze_26, es_26, u_27, ag_27, sz_27, by_27, ze_27, es_27, u_53, ag_53, sz_53, by_53, ze_53, es_53, u_55, f_55_0, f_55_1, f_55_2, f_55_3, f_55_4, f_55_5, f_55_6, f_55_7, f_55_8, ag_55, sz_55, by_55, ze_55, pl_55, es_55, u_57, ag_57, sz_57, by_57, ze_57, es_57, ↓AW_loop, htX, muxC, c1, c2]
  have hn2 : (nx : Int) + 2 = ((nx + 2 : Nat) : Int) := by omega
  have a2 := ((a.setTop (m' := ⟨f, w, nx + 2, ss, ct, rd, tn, gt, false⟩) rfl).app g)
  have u2 : Upd h (h.set p (some (.cells ⟨muxC ⟨f, w, nx + 2, ss, ct, rd, tn, gt, false⟩ (.slice (slA sb) ids.length ids.length), 9, false⟩)) ++ g) (foot p sb ids) (foot p sb ids) := ((Upd.refl h (foot p sb ids)).set (by simp [foot])).more _
  rw [hn2]
  refine FW.mono (add_q _ nx head a2 hl (fun s hs => hid s hs)) fun v h' hv => ?_
  obtain ⟨nb, b, rfl, a3, u3⟩ := hv
  have ht3 := fun X => blkA_app X a3.top
  simp -dsimp -implicitDefEqProofs (disch := first | omega | (simp only [stT, u_2, ag_2, sz_2, by_2, ze_2, es_2, u_3, ag_3, sz_3, by_3, ze_3, es_3, u_4, ag_4, sz_4, by_4, ze_4, bo_4, es_4, u_6, ag_6, sz_6, by_6, ze_6, u8_6, es_6, u_8, f_8_0, f_8_1, f_8_2, f_8_3, ag_8, sz_8, by_8, ze_8, pl_8, es_8, u_9, ag_9, sz_9, by_9, ze_9, es_9, u_26, ag_26, sz_26, by_26, ze_26, es_26, u_27, ag_27, sz_27, by_27, ze_27, es_27, u_53, ag_53, sz_53, by_53, ze_53, es_53, u_55, f_55_0, f_55_1, f_55_2, f_55_3, f_55_4, f_55_5, f_55_6, f_55_7, f_55_8, ag_55, sz_55, by_55, ze_55, pl_55, es_55, u_57, ag_57, sz_57, by_57, ze_57, es_57]; done) | (simp only [List.append_assoc, List.cons_append, List.nil_append, pre_n, pre_c, pre_a, pre_g, pre_r]; done) | (simp only [List.length_set]; done) | (simp only [List.length_set]; omega) | assumption | decide +kernel | fail) only [↓RP, RQ, isConstA, Nat.reduceEqDiff, Nat.reduceLT, Nat.reduceAdd, Int.reduceNeg, Int.reduceLT, Int.reduceLE, Int.reduceToNat, Int.reduceEq, ↓reduceIte, ite_true, ite_false, Option.toList, Nat.reduceMul, Nat.reduceSub, Nat.reduceLeDiff, ne_eq, eq_self, u_2, ag_2, sz_2, by_2, ze_2, es_2, u_3, ag_3, sz_3, by_3, ze_3, es_3, u_4, ag_4, sz_4, by_4, ze_4, bo_4, es_4, u_6, ag_6, sz_6, by_6, ze_6, u8_6, es_6, u_8, f_8_0, f_8_1, f_8_2, f_8_3, ag_8, sz_8, by_8, ze_8, pl_8, es_8, u_9, ag_9, sz_9, by_9, ze_9, es_9, u_26, ag_26, sz_26, by_26, ze_26, es_26, u_27, ag_27, sz_27, by_27, ze_27, es_27, u_53, ag_53, sz_53, by_53, ze_53, es_53, u_55, f_55_0, f_55_1, f_55_2, f_55_3, f_55_4, f_55_5, f_55_6, f_55_7, f_55_8, ag_55, sz_55, by_55, ze_55, pl_55, es_55, u_57, ag_57, sz_57, by_57, ze_57, es_57, ↓AW_loop, a3.top, muxC]
  refine ⟨by decide +kernel, ?_⟩
  refine (frame_q 2 nx head (by omega) _).use' fun g2 => ?_
  have hp3 := a3.lt
  have hfl := frameS_len 2 nx head
  simp -dsimp -implicitDefEqProofs (disch := first | omega | (simp only [stT, u_2, ag_2, sz_2, by_2, ze_2, es_2, u_3, ag_3, sz_3, by_3, ze_3, es_3, u_4, ag_4, sz_4, by_4, ze_4, bo_4, es_4, u_6, ag_6, sz_6, by_6, ze_6, u8_6, es_6, u_8, f_8_0, f_8_1, f_8_2, f_8_3, ag_8, sz_8, by_8, ze_8, pl_8, es_8, u_9, ag_9, sz_9, by_9, ze_9, es_9, u_26, ag_26, sz_26, by_26, ze_26, es_26, u_27, ag_27, sz_27, by_27, ze_27, es_27, u_53, ag_53, sz_53, by_53, ze_53, es_53, u_55, f_55_0, f_55_1, f_55_2, f_55_3, f_55_4, f_55_5, f_55_6, f_55_7, f_55_8, ag_55, sz_55, by_55, ze_55, pl_55, es_55, u_57, ag_57, sz_57, by_57, ze_57, es_57]; done) | (simp only [List.append_assoc, List.cons_append, List.nil_append, pre_n, pre_c, pre_a, pre_g, pre_r]; done) | (simp only [List.length_set]; done) | (simp only [List.length_set]; omega) | assumption | decide +kernel | fail) only [↓RP, RQ, isConstA, Nat.reduceEqDiff, Nat.reduceLT, Nat.reduceAdd, Int.reduceNeg, Int.reduceLT, Int.reduceLE, Int.reduceToNat, Int.reduceEq, ↓reduceIte, ite_true, ite_false, Option.toList, Nat.reduceMul, Nat.reduceSub, Nat.reduceLeDiff, ne_eq, eq_self, u_2, ag_2, sz_2, by_2, ze_2, es_2, u_3, ag_3, sz_3, by_3, ze_3, es_3, u_4, ag_4, sz_4, by_4, ze_4, bo_4, es_4, u_6, ag_6, sz_6, by_6, ze_6, u8_6, es_6, u_8, f_8_0, f_8_1, f_8_2, f_8_3, ag_8, sz_8, by_8, ze_8, pl_8, es_8, u_9, ag_9, sz_9, by_9, ze_9, es_9, u_26, ag_26, sz_26, by_26, ze_26, es_26, u_27, ag_27, sz_27, by_27, ze_27, es_27, u_53, ag_53, sz_53, by_53, ze_53, es_53, u_55, f_55_0, f_55_1, f_55_2, f_55_3, f_55_4, f_55_5, f_55_6, f_55_7, f_55_8, ag_55, sz_55, by_55, ze_55, pl_55, es_55, u_57, ag_57, sz_57, by_57, ze_57, es_57, ↓AW_loop, ht3, muxC]
  (repeat (refine And.intro (by omega) ?_))
  have a4 := (a3.setTop (m' := openS ⟨f, w, nx, ss, ct, rd, tn, gt, false⟩ head) rfl).app g2
  have e : (ids ++ [b]).length = ids.length + 1 := by simp
  rw [e] at a4
  exact ⟨some nb, ids ++ [b], a4, ((u2.trans u3).set (by simp [foot])).more g2⟩
/-- What is written to a stream. -/
def writeM (m : MuxS) (i : Nat) (s : Strm) (text : List UInt8) : MuxS := { m with streams := m.streams.set i { s with out := s.out ++ text.take (min text.length (4096 - s.out.length)) } }
theorem usable_ok {m : MuxS} {id i : Nat} {s : Strm} (hb : m.broken = false) (hf : findS m id = (i : Int)) (hs : m.streams[i]? = some s) (h1 : s.ends = false) (h2 : s.reset = false) : usableS m id = 0 := by
  unfold usableS
  rw [hf]
  simp only [hb, Bool.false_eq_true, if_false, Int.toNat_natCast, hs, h1, h2, or_self]
  rw [if_neg (by omega)]
theorem findV_at {ids : List Nat} {i b : Nat} (hb : ids[i]? = some b) : findV ids (i : Int) = ptrC b := by
  unfold findV
  rw [if_neg (by omega), Int.toNat_natCast, List.getD_eq_getElem?_getD, hb]
  rfl
theorem write_q (m : MuxS) (id i : Nat) (s : Strm) (text : List UInt8) {h : AHeap} {p : Nat} {sb : Option Nat} {ids : List Nat} (a : MuxAt h p sb ids m) (hl : ids.length < 2 ^ 40) (hb : m.broken = false) (hf : findS m id = (i : Int)) (hs : m.streams[i]? = some s)
    (h1 : s.ends = false) (h2 : s.reset = false) (ho : s.out.length ≤ 4096) (ht : text.length < 2 ^ 50) :
    FW cx 12 [ptrC p, .int .i64 id, .string (str text)] h fun v h' => v = .tuple #[.int .i64 (min text.length (4096 - s.out.length) : Nat), .int .i64 0] ∧ MuxAt h' p sb ids (writeM m i s text) ∧ Upd h h' (foot p sb ids) (foot p sb ids) := by
  refine FW_f Try.func12 rfl (by decide +kernel) ?_
  simp -dsimp -implicitDefEqProofs (disch := first | omega | (simp only [stT, u_2, ag_2, sz_2, by_2, ze_2, es_2, u_3, ag_3, sz_3, by_3, ze_3, es_3, u_4, ag_4, sz_4, by_4, ze_4, bo_4, es_4, u_9, ag_9, sz_9, by_9, ze_9, es_9, u_26, ag_26, sz_26, by_26, ze_26, es_26, u_27, ag_27, sz_27, by_27, ze_27, es_27, u_63, f_63_0, f_63_1, f_63_2, f_63_3, f_63_4, f_63_5, f_63_6, f_63_7, f_63_8, f_63_9, f_63_10, ag_63, sz_63, by_63, ze_63, pl_63, es_63]; done) | (simp only [List.append_assoc, List.cons_append, List.nil_append, pre_n, pre_c, pre_a, pre_g, pre_r]; done) | (simp only [List.length_set]; done) | (simp only [List.length_set]; omega) | assumption | decide +kernel | fail) only [↓RP, RQ, isConstA, Nat.reduceEqDiff, Nat.reduceLT, Nat.reduceAdd, Int.reduceNeg, Int.reduceLT, Int.reduceLE, Int.reduceToNat, Int.reduceEq, ↓reduceIte, ite_true, ite_false, Option.toList, Nat.reduceMul, Nat.reduceSub, Nat.reduceLeDiff, ne_eq, eq_self, u_2, ag_2, sz_2, by_2, ze_2, es_2, u_3, ag_3, sz_3, by_3, ze_3, es_3, u_4, ag_4, sz_4, by_4, ze_4, bo_4, es_4, u_9, ag_9, sz_9, by_9, ze_9, es_9, u_26, ag_26, sz_26, by_26, ze_26, es_26, u_27, ag_27, sz_27, by_27, ze_27, es_27, u_63, f_63_0, f_63_1, f_63_2, f_63_3, f_63_4, f_63_5, f_63_6, f_63_7, f_63_8, f_63_9, f_63_10, ag_63, sz_63, by_63, ze_63, pl_63, es_63, ↓AW_loop]
  refine (usable_q m id a hl).use' fun g => ?_
  obtain ⟨b, hib⟩ : ∃ b, ids[i]? = some b := ⟨_, List.getElem?_eq_getElem (by rw [a.len]; exact (List.getElem?_eq_some_iff.1 hs).1)⟩
  rw [usable_ok hb hf hs h1 h2, hf, findV_at hib, if_pos rfl]
  have hbb := a.str i s b hs hib
  have hbX := fun X => blkA_app X hbb
  have hbl := blkA_lt hbb
  have hmin : (if (4096 : Int) - (s.out.length : Int) < text.length then (4096 : Int) - (s.out.length : Int) else text.length) = ((min text.length (4096 - s.out.length) : Nat) : Int) := by split <;> omega
  have htl : (text.take (min text.length (4096 - s.out.length))).length = min text.length (4096 - s.out.length) := by rw [List.length_take]; omega
  simp -dsimp -implicitDefEqProofs (disch := first | omega | (simp only [stT, u_2, ag_2, sz_2, by_2, ze_2, es_2, u_3, ag_3, sz_3, by_3, ze_3, es_3, u_4, ag_4, sz_4, by_4, ze_4, bo_4, es_4, u_9, ag_9, sz_9, by_9, ze_9, es_9, u_26, ag_26, sz_26, by_26, ze_26, es_26, u_27, ag_27, sz_27, by_27, ze_27, es_27, u_63, f_63_0, f_63_1, f_63_2, f_63_3, f_63_4, f_63_5, f_63_6, f_63_7, f_63_8, f_63_9, f_63_10, ag_63, sz_63, by_63, ze_63, pl_63, es_63]; done) | (simp only [List.append_assoc, List.cons_append, List.nil_append, pre_n, pre_c, pre_a, pre_g, pre_r]; done) | (simp only [List.length_set]; done) | (simp only [List.length_set]; omega) | assumption | decide +kernel | fail) only [↓RP, RQ, isConstA, Nat.reduceEqDiff, Nat.reduceLT, Nat.reduceAdd, Int.reduceNeg, Int.reduceLT, Int.reduceLE, Int.reduceToNat, Int.reduceEq, ↓reduceIte, ite_true, ite_false, Option.toList, Nat.reduceMul, Nat.reduceSub, Nat.reduceLeDiff, ne_eq, eq_self, u_2, ag_2, sz_2, by_2, ze_2, es_2, u_3, ag_3, sz_3, by_3, ze_3, es_3, u_4, ag_4, sz_4, by_4, ze_4, bo_4, es_4, u_9, ag_9, sz_9, by_9, ze_9, es_9, u_26, ag_26, sz_26, by_26, ze_26, es_26, u_27, ag_27, sz_27, by_27, ze_27, es_27, u_63, f_63_0, f_63_1, f_63_2, f_63_3, f_63_4, f_63_5, f_63_6, f_63_7, f_63_8, f_63_9, f_63_10, ag_63, sz_63, by_63, ze_63, pl_63, es_63, ↓AW_loop, hbX, strmC, ptrC, foldA, min2A, hmin]
  refine ⟨by decide +kernel, ?_⟩
  (repeat (refine And.intro (by omega) ?_))
  have hm := List.mem_of_getElem? hib
  exact ⟨(a.setStr hib { s with out := s.out ++ text.take (min text.length (4096 - s.out.length)) }).app g, ((Upd.refl h (foot p sb ids)).set (by simp [foot, hm])).more g⟩
def finishM (m : MuxS) (i : Nat) (s : Strm) : MuxS := { m with streams := m.streams.set i { s with ends := true } }
theorem finish_q (m : MuxS) (id i : Nat) (s : Strm) {h : AHeap} {p : Nat} {sb : Option Nat} {ids : List Nat} (a : MuxAt h p sb ids m) (hl : ids.length < 2 ^ 40) (hb : m.broken = false) (hf : findS m id = (i : Int)) (hs : m.streams[i]? = some s)
    (h1 : s.ends = false) (h2 : s.reset = false) :
    FW cx 13 [ptrC p, .int .i64 id] h fun v h' => v = .int .i64 0 ∧ MuxAt h' p sb ids (finishM m i s) ∧ Upd h h' (foot p sb ids) (foot p sb ids) := by
  refine FW_f Try.func13 rfl (by decide +kernel) ?_
  simp -dsimp -implicitDefEqProofs (disch := first | omega | (simp only [stT, u_2, ag_2, sz_2, by_2, ze_2, es_2, u_3, ag_3, sz_3, by_3, ze_3, es_3, u_4, ag_4, sz_4, by_4, ze_4, bo_4, es_4, u_6, ag_6, sz_6, by_6, ze_6, u8_6, es_6, u_7, f_7_0, f_7_1, f_7_2, f_7_3, ag_7, sz_7, by_7, ze_7, pl_7, es_7, u_9, ag_9, sz_9, by_9, ze_9, es_9, u_26, ag_26, sz_26, by_26, ze_26, es_26, u_27, ag_27, sz_27, by_27, ze_27, es_27, u_63, f_63_0, f_63_1, f_63_2, f_63_3, f_63_4, f_63_5, f_63_6, f_63_7, f_63_8, f_63_9, f_63_10, ag_63, sz_63, by_63, ze_63, pl_63, es_63]; done) | (simp only [List.append_assoc, List.cons_append, List.nil_append, pre_n, pre_c, pre_a, pre_g, pre_r]; done) | (simp only [List.length_set]; done) | (simp only [List.length_set]; omega) | assumption | decide +kernel | fail) only [↓RP, RQ, isConstA, Nat.reduceEqDiff, Nat.reduceLT, Nat.reduceAdd, Int.reduceNeg, Int.reduceLT, Int.reduceLE, Int.reduceToNat, Int.reduceEq, ↓reduceIte, ite_true, ite_false, Option.toList, Nat.reduceMul, Nat.reduceSub, Nat.reduceLeDiff, ne_eq, eq_self, u_2, ag_2, sz_2, by_2, ze_2, es_2, u_3, ag_3, sz_3, by_3, ze_3, es_3, u_4, ag_4, sz_4, by_4, ze_4, bo_4, es_4, u_6, ag_6, sz_6, by_6, ze_6, u8_6, es_6, u_7, f_7_0, f_7_1, f_7_2, f_7_3, ag_7, sz_7, by_7, ze_7, pl_7, es_7, u_9, ag_9, sz_9, by_9, ze_9, es_9, u_26, ag_26, sz_26, by_26, ze_26, es_26, u_27, ag_27, sz_27, by_27, ze_27, es_27, u_63, f_63_0, f_63_1, f_63_2, f_63_3, f_63_4, f_63_5, f_63_6, f_63_7, f_63_8, f_63_9, f_63_10, ag_63, sz_63, by_63, ze_63, pl_63, es_63, ↓AW_loop]
  refine (usable_q m id a hl).use' fun g => ?_
  obtain ⟨b, hib⟩ : ∃ b, ids[i]? = some b := ⟨_, List.getElem?_eq_getElem (by rw [a.len]; exact (List.getElem?_eq_some_iff.1 hs).1)⟩
  rw [usable_ok hb hf hs h1 h2, hf, findV_at hib, if_pos rfl]
  have hbb := a.str i s b hs hib
  have hbX := fun X => blkA_app X hbb
  have hbl := blkA_lt hbb
  simp -dsimp -implicitDefEqProofs (disch := first | omega | (simp only [stT, u_2, ag_2, sz_2, by_2, ze_2, es_2, u_3, ag_3, sz_3, by_3, ze_3, es_3, u_4, ag_4, sz_4, by_4, ze_4, bo_4, es_4, u_6, ag_6, sz_6, by_6, ze_6, u8_6, es_6, u_7, f_7_0, f_7_1, f_7_2, f_7_3, ag_7, sz_7, by_7, ze_7, pl_7, es_7, u_9, ag_9, sz_9, by_9, ze_9, es_9, u_26, ag_26, sz_26, by_26, ze_26, es_26, u_27, ag_27, sz_27, by_27, ze_27, es_27, u_63, f_63_0, f_63_1, f_63_2, f_63_3, f_63_4, f_63_5, f_63_6, f_63_7, f_63_8, f_63_9, f_63_10, ag_63, sz_63, by_63, ze_63, pl_63, es_63]; done) | (simp only [List.append_assoc, List.cons_append, List.nil_append, pre_n, pre_c, pre_a, pre_g, pre_r]; done) | (simp only [List.length_set]; done) | (simp only [List.length_set]; omega) | assumption | decide +kernel | fail) only [↓RP, RQ, isConstA, Nat.reduceEqDiff, Nat.reduceLT, Nat.reduceAdd, Int.reduceNeg, Int.reduceLT, Int.reduceLE, Int.reduceToNat, Int.reduceEq, ↓reduceIte, ite_true, ite_false, Option.toList, Nat.reduceMul, Nat.reduceSub, Nat.reduceLeDiff, ne_eq, eq_self, u_2, ag_2, sz_2, by_2, ze_2, es_2, u_3, ag_3, sz_3, by_3, ze_3, es_3, u_4, ag_4, sz_4, by_4, ze_4, bo_4, es_4, u_6, ag_6, sz_6, by_6, ze_6, u8_6, es_6, u_7, f_7_0, f_7_1, f_7_2, f_7_3, ag_7, sz_7, by_7, ze_7, pl_7, es_7, u_9, ag_9, sz_9, by_9, ze_9, es_9, u_26, ag_26, sz_26, by_26, ze_26, es_26, u_27, ag_27, sz_27, by_27, ze_27, es_27, u_63, f_63_0, f_63_1, f_63_2, f_63_3, f_63_4, f_63_5, f_63_6, f_63_7, f_63_8, f_63_9, f_63_10, ag_63, sz_63, by_63, ze_63, pl_63, es_63, ↓AW_loop, hbX, strmC, ptrC]
  have hm := List.mem_of_getElem? hib
  exact ⟨(a.setStr hib { s with ends := true }).app g, ((Upd.refl h (foot p sb ids)).set (by simp [foot, hm])).more g⟩
def newM (first : Bool) (window : Nat) : MuxS := ⟨first, window, if first = true then 1 else 2, [], [], [], 0, [], false⟩
theorem new_q (first : Bool) (window : Nat) (h1 : 1 ≤ window) (h2 : window ≤ 256) (h : AHeap) :
    FW cx 10 [.bool first, .int .i64 window] h fun v h' => v = .tuple #[ptrC h.length, .int .i64 0] ∧ MuxAt h' h.length none [] (newM first window) ∧ h' = h ++ [some (.cells ⟨muxC (newM first window) (.slice none 0 0), 9, false⟩)] := by
  refine FW_f Try.func10 rfl (by decide +kernel) ?_
  have c1 : ¬ (window : Int) < 1 := by omega
  have c2 : ¬ (256 : Int) < window := by omega
  have key : MuxAt (h ++ [some (.cells ⟨muxC (newM first window) (.slice none 0 0), 9, false⟩)]) h.length none [] (newM first window) := ⟨blkA_new _ _, .inl ⟨rfl, rfl⟩, rfl, fun i s b h1 _ => by simp [newM] at h1, by simp⟩
  cases first
  · simp -dsimp -implicitDefEqProofs (disch := first | omega | (simp only [stT, u_3, ag_3, sz_3, by_3, ze_3, es_3, u_4, ag_4, sz_4, by_4, ze_4, bo_4, es_4, u_9, ag_9, sz_9, by_9, ze_9, es_9, u_26, ag_26, sz_26, by_26, ze_26, es_26, u_27, ag_27, sz_27, by_27, ze_27, es_27, u_53, ag_53, sz_53, by_53, ze_53, es_53, u_55, f_55_0, f_55_1, f_55_2, f_55_3, f_55_4, f_55_5, f_55_6, f_55_7, f_55_8, ag_55, sz_55, by_55, ze_55, pl_55, es_55, u_57, ag_57, sz_57, by_57, ze_57, es_57]; done) | (simp only [List.append_assoc, List.cons_append, List.nil_append, pre_n, pre_c, pre_a, pre_g, pre_r]; done) | (simp only [List.length_set]; done) | (simp only [List.length_set]; omega) | assumption | decide +kernel | fail) only [↓RP, RQ, isConstA, Nat.reduceEqDiff, Nat.reduceLT, Nat.reduceAdd, Int.reduceNeg, Int.reduceLT, Int.reduceLE, Int.reduceToNat, Int.reduceEq, ↓reduceIte, ite_true, ite_false, Option.toList, Nat.reduceMul, Nat.reduceSub, Nat.reduceLeDiff, ne_eq, eq_self, u_3, ag_3, sz_3, by_3, ze_3, es_3, u_4, ag_4, sz_4, by_4, ze_4, bo_4, es_4, u_9, ag_9, sz_9, by_9, ze_9, es_9, u_26, ag_26, sz_26, by_26, ze_26, es_26, u_27, ag_27, sz_27, by_27, ze_27, es_27, u_53, ag_53, sz_53, by_53, ze_53, es_53, u_55, f_55_0, f_55_1, f_55_2, f_55_3, f_55_4, f_55_5, f_55_6, f_55_7, f_55_8, ag_55, sz_55, by_55, ze_55, pl_55, es_55, u_57, ag_57, sz_57, by_57, ze_57, es_57, ↓AW_loop, c1, c2]
    exact ⟨rfl, key, rfl⟩
  · simp -dsimp -implicitDefEqProofs (disch := first | omega | (simp only [stT, u_3, ag_3, sz_3, by_3, ze_3, es_3, u_4, ag_4, sz_4, by_4, ze_4, bo_4, es_4, u_9, ag_9, sz_9, by_9, ze_9, es_9, u_26, ag_26, sz_26, by_26, ze_26, es_26, u_27, ag_27, sz_27, by_27, ze_27, es_27, u_53, ag_53, sz_53, by_53, ze_53, es_53, u_55, f_55_0, f_55_1, f_55_2, f_55_3, f_55_4, f_55_5, f_55_6, f_55_7, f_55_8, ag_55, sz_55, by_55, ze_55, pl_55, es_55, u_57, ag_57, sz_57, by_57, ze_57, es_57]; done) | (simp only [List.append_assoc, List.cons_append, List.nil_append, pre_n, pre_c, pre_a, pre_g, pre_r]; done) | (simp only [List.length_set]; done) | (simp only [List.length_set]; omega) | assumption | decide +kernel | fail) only [↓RP, RQ, isConstA, Nat.reduceEqDiff, Nat.reduceLT, Nat.reduceAdd, Int.reduceNeg, Int.reduceLT, Int.reduceLE, Int.reduceToNat, Int.reduceEq, ↓reduceIte, ite_true, ite_false, Option.toList, Nat.reduceMul, Nat.reduceSub, Nat.reduceLeDiff, ne_eq, eq_self, u_3, ag_3, sz_3, by_3, ze_3, es_3, u_4, ag_4, sz_4, by_4, ze_4, bo_4, es_4, u_9, ag_9, sz_9, by_9, ze_9, es_9, u_26, ag_26, sz_26, by_26, ze_26, es_26, u_27, ag_27, sz_27, by_27, ze_27, es_27, u_53, ag_53, sz_53, by_53, ze_53, es_53, u_55, f_55_0, f_55_1, f_55_2, f_55_3, f_55_4, f_55_5, f_55_6, f_55_7, f_55_8, ag_55, sz_55, by_55, ze_55, pl_55, es_55, u_57, ag_57, sz_57, by_57, ze_57, es_57, ↓AW_loop, c1, c2]
    exact ⟨rfl, key, rfl⟩
end Go.Abs
/- Mx4: the walks of the multiplexer: what it sends. Conditions: none. -/
set_option maxRecDepth 100000
set_option linter.unusedSimpArgs false
set_option linter.unusedVariables false
namespace Go.Abs
open Go.Proofs
def most64 (s : Strm) : Nat := min (min s.out.length s.window) 64
/-- The next frame of a stream, and the stream behind it. -/
def chunkS (s : Strm) : List UInt8 × Strm :=
  if s.reset = true ∨ s.ended = true then ([], s)
  else if 0 < most64 s then (frameS 1 s.id (s.out.take (most64 s)), { s with out := s.out.drop (most64 s), window := s.window - most64 s })
  else if s.ends = true ∧ s.out = [] then (frameS 3 s.id [], { s with ended := true })
  else ([], s)
theorem chunk_q (m : MuxS) (i : Nat) (s : Strm) {h : AHeap} {p b : Nat} {sb : Option Nat} {ids : List Nat} (a : MuxAt h p sb ids m) (hs : m.streams[i]? = some s) (hib : ids[i]? = some b) (hw : s.window < 2 ^ 40) (ho : s.out.length < 2 ^ 40) :
    FW cx 45 [ptrC p, ptrC b] h fun v h' => v = .string (str (chunkS s).1) ∧ MuxAt h' p sb ids { m with streams := m.streams.set i (chunkS s).2 } ∧ Upd h h' (foot p sb ids) (foot p sb ids) := by
  refine FW_f Try.func45 rfl (by decide +kernel) ?_
  have hbb := a.str i s b hs hib
  have hbX := fun X => blkA_app X hbb
  have hbl := blkA_lt hbb
  have hm := List.mem_of_getElem? hib
  have hset : m.streams.set i s = m.streams := by
    apply List.ext_getElem?
    intro j
    by_cases hij : i = j
    · subst hij; rw [List.getElem?_set_self (List.getElem?_eq_some_iff.1 hs).1, hs]
    · rw [List.getElem?_set_ne hij]
  have hsame : MuxAt h p sb ids { m with streams := m.streams.set i s } := by rw [hset]; exact a
  unfold chunkS ptrC
  cases h1 : s.reset
  · cases h2 : s.ended
    · simp only [Bool.false_eq_true, or_self, if_false]
      have hmin : foldA min2A (Value.int .i64 (s.out.length : Int)) [.int .i64 (s.window : Int), .int .i64 64] = some (.int .i64 ((most64 s : Nat) : Int)) := by
        simp only [foldA, min2A, most64]
        congr 2
        split <;> split <;> omega
      by_cases h3 : 0 < most64 s
      · rw [if_pos h3]
        have h3' : (0 : Int) < ((most64 s : Nat) : Int) := by omega
        have hle1 : most64 s ≤ s.out.length := by unfold most64; omega
        have hle2 : most64 s ≤ s.window := by unfold most64; omega
        have hsub : (s.window : Int) - ((most64 s : Nat) : Int) = ((s.window - most64 s : Nat) : Int) := by omega
        have htl : (s.out.take (most64 s)).length = most64 s := by rw [List.length_take]; omega
        simp -dsimp -implicitDefEqProofs (disch := first | omega | (simp only [stT, u_0, ag_0, sz_0, by_0, ze_0, es_0, u_2, ag_2, sz_2, by_2, ze_2, es_2, u_3, ag_3, sz_3, by_3, ze_3, es_3, u_4, ag_4, sz_4, by_4, ze_4, bo_4, es_4, u_6, ag_6, sz_6, by_6, ze_6, u8_6, es_6, u_7, f_7_0, f_7_1, f_7_2, f_7_3, ag_7, sz_7, by_7, ze_7, pl_7, es_7, u_8, f_8_0, f_8_1, f_8_2, f_8_3, ag_8, sz_8, by_8, ze_8, pl_8, es_8, u_9, ag_9, sz_9, by_9, ze_9, es_9, u_10, ag_10, sz_10, by_10, ze_10, es_10, u_26, ag_26, sz_26, by_26, ze_26, es_26, u_57, ag_57, sz_57, by_57, ze_57, es_57, u_63, f_63_0, f_63_1, f_63_2, f_63_3, f_63_4, f_63_5, f_63_6, f_63_7, f_63_8, f_63_9, f_63_10, ag_63, sz_63, by_63, ze_63, pl_63, es_63]; done) | (simp only [List.append_assoc, List.cons_append, List.nil_append, pre_n, pre_c, pre_a, pre_g, pre_r]; done) | (simp only [List.length_set]; done) | (simp only [List.length_set]; omega) | assumption | decide +kernel | fail) only [↓RP, RQ, isConstA, Nat.reduceEqDiff, Nat.reduceLT, Nat.reduceAdd, Int.reduceNeg, Int.reduceLT, Int.reduceLE, Int.reduceToNat, Int.reduceEq, ↓reduceIte, ite_true, ite_false, Option.toList, Nat.reduceMul, Nat.reduceSub, Nat.reduceLeDiff, ne_eq, eq_self, u_0, ag_0, sz_0, by_0, ze_0, es_0, u_2, ag_2, sz_2, by_2, ze_2, es_2, u_3, ag_3, sz_3, by_3, ze_3, es_3, u_4, ag_4, sz_4, by_4, ze_4, bo_4, es_4, u_6, ag_6, sz_6, by_6, ze_6, u8_6, es_6, u_7, f_7_0, f_7_1, f_7_2, f_7_3, ag_7, sz_7, by_7, ze_7, pl_7, es_7, u_8, f_8_0, f_8_1, f_8_2, f_8_3, ag_8, sz_8, by_8, ze_8, pl_8, es_8, u_9, ag_9, sz_9, by_9, ze_9, es_9, u_10, ag_10, sz_10, by_10, ze_10, es_10, u_26, ag_26, sz_26, by_26, ze_26, es_26, u_57, ag_57, sz_57, by_57, ze_57, es_57, u_63, f_63_0, f_63_1, f_63_2, f_63_3, f_63_4, f_63_5, f_63_6, f_63_7, f_63_8, f_63_9, f_63_10, ag_63, sz_63, by_63, ze_63, pl_63, es_63, ↓AW_loop, hbb, hbX, strmC, h1, h2, hmin, h3', hsub]
        refine ⟨by decide +kernel, ?_⟩
        (repeat (refine And.intro (by omega) ?_))
        refine ⟨by decide +kernel, ?_⟩
        (repeat (refine And.intro (by omega) ?_))
        refine (frame_q 1 s.id (s.out.take (most64 s)) (by omega) _).use' fun g => ?_
        simp -dsimp -implicitDefEqProofs (disch := first | omega | (simp only [stT, u_0, ag_0, sz_0, by_0, ze_0, es_0, u_2, ag_2, sz_2, by_2, ze_2, es_2, u_3, ag_3, sz_3, by_3, ze_3, es_3, u_4, ag_4, sz_4, by_4, ze_4, bo_4, es_4, u_6, ag_6, sz_6, by_6, ze_6, u8_6, es_6, u_7, f_7_0, f_7_1, f_7_2, f_7_3, ag_7, sz_7, by_7, ze_7, pl_7, es_7, u_8, f_8_0, f_8_1, f_8_2, f_8_3, ag_8, sz_8, by_8, ze_8, pl_8, es_8, u_9, ag_9, sz_9, by_9, ze_9, es_9, u_10, ag_10, sz_10, by_10, ze_10, es_10, u_26, ag_26, sz_26, by_26, ze_26, es_26, u_57, ag_57, sz_57, by_57, ze_57, es_57, u_63, f_63_0, f_63_1, f_63_2, f_63_3, f_63_4, f_63_5, f_63_6, f_63_7, f_63_8, f_63_9, f_63_10, ag_63, sz_63, by_63, ze_63, pl_63, es_63]; done) | (simp only [List.append_assoc, List.cons_append, List.nil_append, pre_n, pre_c, pre_a, pre_g, pre_r]; done) | (simp only [List.length_set]; done) | (simp only [List.length_set]; omega) | assumption | decide +kernel | fail) only [↓RP, RQ, isConstA, Nat.reduceEqDiff, Nat.reduceLT, Nat.reduceAdd, Int.reduceNeg, Int.reduceLT, Int.reduceLE, Int.reduceToNat, Int.reduceEq, ↓reduceIte, ite_true, ite_false, Option.toList, Nat.reduceMul, Nat.reduceSub, Nat.reduceLeDiff, ne_eq, eq_self, u_0, ag_0, sz_0, by_0, ze_0, es_0, u_2, ag_2, sz_2, by_2, ze_2, es_2, u_3, ag_3, sz_3, by_3, ze_3, es_3, u_4, ag_4, sz_4, by_4, ze_4, bo_4, es_4, u_6, ag_6, sz_6, by_6, ze_6, u8_6, es_6, u_7, f_7_0, f_7_1, f_7_2, f_7_3, ag_7, sz_7, by_7, ze_7, pl_7, es_7, u_8, f_8_0, f_8_1, f_8_2, f_8_3, ag_8, sz_8, by_8, ze_8, pl_8, es_8, u_9, ag_9, sz_9, by_9, ze_9, es_9, u_10, ag_10, sz_10, by_10, ze_10, es_10, u_26, ag_26, sz_26, by_26, ze_26, es_26, u_57, ag_57, sz_57, by_57, ze_57, es_57, u_63, f_63_0, f_63_1, f_63_2, f_63_3, f_63_4, f_63_5, f_63_6, f_63_7, f_63_8, f_63_9, f_63_10, ag_63, sz_63, by_63, ze_63, pl_63, es_63, ↓AW_loop, hbb, hbX, strmC]
        have a2 := (a.setStr hib { s with out := s.out.drop (most64 s), window := s.window - most64 s }).app g
        simp only [strmC, h1, h2] at a2
        exact ⟨a2, ((Upd.refl h (foot p sb ids)).set (by simp [foot, hm])).more g⟩
      · rw [if_neg h3]
        have h3' : ¬ (0 : Int) < ((most64 s : Nat) : Int) := by omega
        cases h4 : s.ends
        · simp only [Bool.false_eq_true, false_and, if_false]
          simp -dsimp -implicitDefEqProofs (disch := first | omega | (simp only [stT, u_0, ag_0, sz_0, by_0, ze_0, es_0, u_2, ag_2, sz_2, by_2, ze_2, es_2, u_3, ag_3, sz_3, by_3, ze_3, es_3, u_4, ag_4, sz_4, by_4, ze_4, bo_4, es_4, u_6, ag_6, sz_6, by_6, ze_6, u8_6, es_6, u_7, f_7_0, f_7_1, f_7_2, f_7_3, ag_7, sz_7, by_7, ze_7, pl_7, es_7, u_8, f_8_0, f_8_1, f_8_2, f_8_3, ag_8, sz_8, by_8, ze_8, pl_8, es_8, u_9, ag_9, sz_9, by_9, ze_9, es_9, u_10, ag_10, sz_10, by_10, ze_10, es_10, u_26, ag_26, sz_26, by_26, ze_26, es_26, u_57, ag_57, sz_57, by_57, ze_57, es_57, u_63, f_63_0, f_63_1, f_63_2, f_63_3, f_63_4, f_63_5, f_63_6, f_63_7, f_63_8, f_63_9, f_63_10, ag_63, sz_63, by_63, ze_63, pl_63, es_63]; done) | (simp only [List.append_assoc, List.cons_append, List.nil_append, pre_n, pre_c, pre_a, pre_g, pre_r]; done) | (simp only [List.length_set]; done) | (simp only [List.length_set]; omega) | assumption | decide +kernel | fail) only [↓RP, RQ, isConstA, Nat.reduceEqDiff, Nat.reduceLT, Nat.reduceAdd, Int.reduceNeg, Int.reduceLT, Int.reduceLE, Int.reduceToNat, Int.reduceEq, ↓reduceIte, ite_true, ite_false, Option.toList, Nat.reduceMul, Nat.reduceSub, Nat.reduceLeDiff, ne_eq, eq_self, u_0, ag_0, sz_0, by_0, ze_0, es_0, u_2, ag_2, sz_2, by_2, ze_2, es_2, u_3, ag_3, sz_3, by_3, ze_3, es_3, u_4, ag_4, sz_4, by_4, ze_4, bo_4, es_4, u_6, ag_6, sz_6, by_6, ze_6, u8_6, es_6, u_7, f_7_0, f_7_1, f_7_2, f_7_3, ag_7, sz_7, by_7, ze_7, pl_7, es_7, u_8, f_8_0, f_8_1, f_8_2, f_8_3, ag_8, sz_8, by_8, ze_8, pl_8, es_8, u_9, ag_9, sz_9, by_9, ze_9, es_9, u_10, ag_10, sz_10, by_10, ze_10, es_10, u_26, ag_26, sz_26, by_26, ze_26, es_26, u_57, ag_57, sz_57, by_57, ze_57, es_57, u_63, f_63_0, f_63_1, f_63_2, f_63_3, f_63_4, f_63_5, f_63_6, f_63_7, f_63_8, f_63_9, f_63_10, ag_63, sz_63, by_63, ze_63, pl_63, es_63, ↓AW_loop, hbb, hbX, strmC, h1, h2, h4, hmin, h3']
          refine ⟨by decide +kernel, ?_⟩
          exact ⟨hsame, Upd.refl _ _⟩
        · by_cases h5 : s.out = []
          · rw [if_pos ⟨rfl, h5⟩]
            have hmin' : foldA min2A (Value.int .i64 0) [.int .i64 (s.window : Int), .int .i64 64] = some (.int .i64 ((most64 s : Nat) : Int)) := by have := hmin; rw [h5] at this; exact this
            simp -dsimp -implicitDefEqProofs (disch := first | omega | (simp only [stT, u_0, ag_0, sz_0, by_0, ze_0, es_0, u_2, ag_2, sz_2, by_2, ze_2, es_2, u_3, ag_3, sz_3, by_3, ze_3, es_3, u_4, ag_4, sz_4, by_4, ze_4, bo_4, es_4, u_6, ag_6, sz_6, by_6, ze_6, u8_6, es_6, u_7, f_7_0, f_7_1, f_7_2, f_7_3, ag_7, sz_7, by_7, ze_7, pl_7, es_7, u_8, f_8_0, f_8_1, f_8_2, f_8_3, ag_8, sz_8, by_8, ze_8, pl_8, es_8, u_9, ag_9, sz_9, by_9, ze_9, es_9, u_10, ag_10, sz_10, by_10, ze_10, es_10, u_26, ag_26, sz_26, by_26, ze_26, es_26, u_57, ag_57, sz_57, by_57, ze_57, es_57, u_63, f_63_0, f_63_1, f_63_2, f_63_3, f_63_4, f_63_5, f_63_6, f_63_7, f_63_8, f_63_9, f_63_10, ag_63, sz_63, by_63, ze_63, pl_63, es_63]; done) | (simp only [List.append_assoc, List.cons_append, List.nil_append, pre_n, pre_c, pre_a, pre_g, pre_r]; done) | (simp only [List.length_set]; done) | (simp only [List.length_set]; omega) | assumption | decide +kernel | fail) only [↓RP, RQ, isConstA, Nat.reduceEqDiff, Nat.reduceLT, Nat.reduceAdd, Int.reduceNeg, Int.reduceLT, Int.reduceLE, Int.reduceToNat, Int.reduceEq, ↓reduceIte, ite_true, ite_false, Option.toList, Nat.reduceMul, Nat.reduceSub, Nat.reduceLeDiff, ne_eq, eq_self, u_0, ag_0, sz_0, by_0, ze_0, es_0, u_2, ag_2, sz_2, by_2, ze_2, es_2, u_3, ag_3, sz_3, by_3, ze_3, es_3, u_4, ag_4, sz_4, by_4, ze_4, bo_4, es_4, u_6, ag_6, sz_6, by_6, ze_6, u8_6, es_6, u_7, f_7_0, f_7_1, f_7_2, f_7_3, ag_7, sz_7, by_7, ze_7, pl_7, es_7, u_8, f_8_0, f_8_1, f_8_2, f_8_3, ag_8, sz_8, by_8, ze_8, pl_8, es_8, u_9, ag_9, sz_9, by_9, ze_9, es_9, u_10, ag_10, sz_10, by_10, ze_10, es_10, u_26, ag_26, sz_26, by_26, ze_26, es_26, u_57, ag_57, sz_57, by_57, ze_57, es_57, u_63, f_63_0, f_63_1, f_63_2, f_63_3, f_63_4, f_63_5, f_63_6, f_63_7, f_63_8, f_63_9, f_63_10, ag_63, sz_63, by_63, ze_63, pl_63, es_63, ↓AW_loop, hbb, hbX, strmC, h1, h2, h4, h5, hmin', h3']
            refine ⟨by decide +kernel, ?_⟩
            refine (frame_q 3 s.id [] (by simp) _).use' fun g => ?_
            simp -dsimp -implicitDefEqProofs (disch := first | omega | (simp only [stT, u_0, ag_0, sz_0, by_0, ze_0, es_0, u_2, ag_2, sz_2, by_2, ze_2, es_2, u_3, ag_3, sz_3, by_3, ze_3, es_3, u_4, ag_4, sz_4, by_4, ze_4, bo_4, es_4, u_6, ag_6, sz_6, by_6, ze_6, u8_6, es_6, u_7, f_7_0, f_7_1, f_7_2, f_7_3, ag_7, sz_7, by_7, ze_7, pl_7, es_7, u_8, f_8_0, f_8_1, f_8_2, f_8_3, ag_8, sz_8, by_8, ze_8, pl_8, es_8, u_9, ag_9, sz_9, by_9, ze_9, es_9, u_10, ag_10, sz_10, by_10, ze_10, es_10, u_26, ag_26, sz_26, by_26, ze_26, es_26, u_57, ag_57, sz_57, by_57, ze_57, es_57, u_63, f_63_0, f_63_1, f_63_2, f_63_3, f_63_4, f_63_5, f_63_6, f_63_7, f_63_8, f_63_9, f_63_10, ag_63, sz_63, by_63, ze_63, pl_63, es_63]; done) | (simp only [List.append_assoc, List.cons_append, List.nil_append, pre_n, pre_c, pre_a, pre_g, pre_r]; done) | (simp only [List.length_set]; done) | (simp only [List.length_set]; omega) | assumption | decide +kernel | fail) only [↓RP, RQ, isConstA, Nat.reduceEqDiff, Nat.reduceLT, Nat.reduceAdd, Int.reduceNeg, Int.reduceLT, Int.reduceLE, Int.reduceToNat, Int.reduceEq, ↓reduceIte, ite_true, ite_false, Option.toList, Nat.reduceMul, Nat.reduceSub, Nat.reduceLeDiff, ne_eq, eq_self, u_0, ag_0, sz_0, by_0, ze_0, es_0, u_2, ag_2, sz_2, by_2, ze_2, es_2, u_3, ag_3, sz_3, by_3, ze_3, es_3, u_4, ag_4, sz_4, by_4, ze_4, bo_4, es_4, u_6, ag_6, sz_6, by_6, ze_6, u8_6, es_6, u_7, f_7_0, f_7_1, f_7_2, f_7_3, ag_7, sz_7, by_7, ze_7, pl_7, es_7, u_8, f_8_0, f_8_1, f_8_2, f_8_3, ag_8, sz_8, by_8, ze_8, pl_8, es_8, u_9, ag_9, sz_9, by_9, ze_9, es_9, u_10, ag_10, sz_10, by_10, ze_10, es_10, u_26, ag_26, sz_26, by_26, ze_26, es_26, u_57, ag_57, sz_57, by_57, ze_57, es_57, u_63, f_63_0, f_63_1, f_63_2, f_63_3, f_63_4, f_63_5, f_63_6, f_63_7, f_63_8, f_63_9, f_63_10, ag_63, sz_63, by_63, ze_63, pl_63, es_63, ↓AW_loop, hbb, hbX, strmC]
            have a2 := (a.setStr hib { s with ended := true }).app g
            simp only [strmC, h1, h4, h5] at a2
            exact ⟨a2, ((Upd.refl h (foot p sb ids)).set (by simp [foot, hm])).more g⟩
          · rw [if_neg (fun h => h5 h.2)]
            simp -dsimp -implicitDefEqProofs (disch := first | omega | (simp only [stT, u_0, ag_0, sz_0, by_0, ze_0, es_0, u_2, ag_2, sz_2, by_2, ze_2, es_2, u_3, ag_3, sz_3, by_3, ze_3, es_3, u_4, ag_4, sz_4, by_4, ze_4, bo_4, es_4, u_6, ag_6, sz_6, by_6, ze_6, u8_6, es_6, u_7, f_7_0, f_7_1, f_7_2, f_7_3, ag_7, sz_7, by_7, ze_7, pl_7, es_7, u_8, f_8_0, f_8_1, f_8_2, f_8_3, ag_8, sz_8, by_8, ze_8, pl_8, es_8, u_9, ag_9, sz_9, by_9, ze_9, es_9, u_10, ag_10, sz_10, by_10, ze_10, es_10, u_26, ag_26, sz_26, by_26, ze_26, es_26, u_57, ag_57, sz_57, by_57, ze_57, es_57, u_63, f_63_0, f_63_1, f_63_2, f_63_3, f_63_4, f_63_5, f_63_6, f_63_7, f_63_8, f_63_9, f_63_10, ag_63, sz_63, by_63, ze_63, pl_63, es_63]; done) | (simp only [List.append_assoc, List.cons_append, List.nil_append, pre_n, pre_c, pre_a, pre_g, pre_r]; done) | (simp only [List.length_set]; done) | (simp only [List.length_set]; omega) | assumption | decide +kernel | fail) only [↓RP, RQ, isConstA, Nat.reduceEqDiff, Nat.reduceLT, Nat.reduceAdd, Int.reduceNeg, Int.reduceLT, Int.reduceLE, Int.reduceToNat, Int.reduceEq, ↓reduceIte, ite_true, ite_false, Option.toList, Nat.reduceMul, Nat.reduceSub, Nat.reduceLeDiff, ne_eq, eq_self, u_0, ag_0, sz_0, by_0, ze_0, es_0, u_2, ag_2, sz_2, by_2, ze_2, es_2, u_3, ag_3, sz_3, by_3, ze_3, es_3, u_4, ag_4, sz_4, by_4, ze_4, bo_4, es_4, u_6, ag_6, sz_6, by_6, ze_6, u8_6, es_6, u_7, f_7_0, f_7_1, f_7_2, f_7_3, ag_7, sz_7, by_7, ze_7, pl_7, es_7, u_8, f_8_0, f_8_1, f_8_2, f_8_3, ag_8, sz_8, by_8, ze_8, pl_8, es_8, u_9, ag_9, sz_9, by_9, ze_9, es_9, u_10, ag_10, sz_10, by_10, ze_10, es_10, u_26, ag_26, sz_26, by_26, ze_26, es_26, u_57, ag_57, sz_57, by_57, ze_57, es_57, u_63, f_63_0, f_63_1, f_63_2, f_63_3, f_63_4, f_63_5, f_63_6, f_63_7, f_63_8, f_63_9, f_63_10, ag_63, sz_63, by_63, ze_63, pl_63, es_63, ↓AW_loop, hbb, hbX, strmC, h1, h2, h4, h5, hmin, h3']
            refine ⟨by decide +kernel, ?_⟩
            exact ⟨hsame, Upd.refl _ _⟩
    · simp only [Bool.false_eq_true, or_true, if_true]
      simp -dsimp -implicitDefEqProofs (disch := first | omega | (simp only [stT, u_0, ag_0, sz_0, by_0, ze_0, es_0, u_2, ag_2, sz_2, by_2, ze_2, es_2, u_3, ag_3, sz_3, by_3, ze_3, es_3, u_4, ag_4, sz_4, by_4, ze_4, bo_4, es_4, u_6, ag_6, sz_6, by_6, ze_6, u8_6, es_6, u_7, f_7_0, f_7_1, f_7_2, f_7_3, ag_7, sz_7, by_7, ze_7, pl_7, es_7, u_8, f_8_0, f_8_1, f_8_2, f_8_3, ag_8, sz_8, by_8, ze_8, pl_8, es_8, u_9, ag_9, sz_9, by_9, ze_9, es_9, u_10, ag_10, sz_10, by_10, ze_10, es_10, u_26, ag_26, sz_26, by_26, ze_26, es_26, u_57, ag_57, sz_57, by_57, ze_57, es_57, u_63, f_63_0, f_63_1, f_63_2, f_63_3, f_63_4, f_63_5, f_63_6, f_63_7, f_63_8, f_63_9, f_63_10, ag_63, sz_63, by_63, ze_63, pl_63, es_63]; done) | (simp only [List.append_assoc, List.cons_append, List.nil_append, pre_n, pre_c, pre_a, pre_g, pre_r]; done) | (simp only [List.length_set]; done) | (simp only [List.length_set]; omega) | assumption | decide +kernel | fail) only [↓RP, RQ, isConstA, Nat.reduceEqDiff, Nat.reduceLT, Nat.reduceAdd, Int.reduceNeg, Int.reduceLT, Int.reduceLE, Int.reduceToNat, Int.reduceEq, ↓reduceIte, ite_true, ite_false, Option.toList, Nat.reduceMul, Nat.reduceSub, Nat.reduceLeDiff, ne_eq, eq_self, u_0, ag_0, sz_0, by_0, ze_0, es_0, u_2, ag_2, sz_2, by_2, ze_2, es_2, u_3, ag_3, sz_3, by_3, ze_3, es_3, u_4, ag_4, sz_4, by_4, ze_4, bo_4, es_4, u_6, ag_6, sz_6, by_6, ze_6, u8_6, es_6, u_7, f_7_0, f_7_1, f_7_2, f_7_3, ag_7, sz_7, by_7, ze_7, pl_7, es_7, u_8, f_8_0, f_8_1, f_8_2, f_8_3, ag_8, sz_8, by_8, ze_8, pl_8, es_8, u_9, ag_9, sz_9, by_9, ze_9, es_9, u_10, ag_10, sz_10, by_10, ze_10, es_10, u_26, ag_26, sz_26, by_26, ze_26, es_26, u_57, ag_57, sz_57, by_57, ze_57, es_57, u_63, f_63_0, f_63_1, f_63_2, f_63_3, f_63_4, f_63_5, f_63_6, f_63_7, f_63_8, f_63_9, f_63_10, ag_63, sz_63, by_63, ze_63, pl_63, es_63, ↓AW_loop, hbb, hbX, strmC, h1, h2]
      exact ⟨hsame, Upd.refl _ _⟩
  · simp only [true_or, if_true]
    simp -dsimp -implicitDefEqProofs (disch := first | omega | (simp only [stT, u_0, ag_0, sz_0, by_0, ze_0, es_0, u_2, ag_2, sz_2, by_2, ze_2, es_2, u_3, ag_3, sz_3, by_3, ze_3, es_3, u_4, ag_4, sz_4, by_4, ze_4, bo_4, es_4, u_6, ag_6, sz_6, by_6, ze_6, u8_6, es_6, u_7, f_7_0, f_7_1, f_7_2, f_7_3, ag_7, sz_7, by_7, ze_7, pl_7, es_7, u_8, f_8_0, f_8_1, f_8_2, f_8_3, ag_8, sz_8, by_8, ze_8, pl_8, es_8, u_9, ag_9, sz_9, by_9, ze_9, es_9, u_10, ag_10, sz_10, by_10, ze_10, es_10, u_26, ag_26, sz_26, by_26, ze_26, es_26, u_57, ag_57, sz_57, by_57, ze_57, es_57, u_63, f_63_0, f_63_1, f_63_2, f_63_3, f_63_4, f_63_5, f_63_6, f_63_7, f_63_8, f_63_9, f_63_10, ag_63, sz_63, by_63, ze_63, pl_63, es_63]; done) | (simp only [List.append_assoc, List.cons_append, List.nil_append, pre_n, pre_c, pre_a, pre_g, pre_r]; done) | (simp only [List.length_set]; done) | (simp only [List.length_set]; omega) | assumption | decide +kernel | fail) only [↓RP, RQ, isConstA, Nat.reduceEqDiff, Nat.reduceLT, Nat.reduceAdd, Int.reduceNeg, Int.reduceLT, Int.reduceLE, Int.reduceToNat, Int.reduceEq, ↓reduceIte, ite_true, ite_false, Option.toList, Nat.reduceMul, Nat.reduceSub, Nat.reduceLeDiff, ne_eq, eq_self, u_0, ag_0, sz_0, by_0, ze_0, es_0, u_2, ag_2, sz_2, by_2, ze_2, es_2, u_3, ag_3, sz_3, by_3, ze_3, es_3, u_4, ag_4, sz_4, by_4, ze_4, bo_4, es_4, u_6, ag_6, sz_6, by_6, ze_6, u8_6, es_6, u_7, f_7_0, f_7_1, f_7_2, f_7_3, ag_7, sz_7, by_7, ze_7, pl_7, es_7, u_8, f_8_0, f_8_1, f_8_2, f_8_3, ag_8, sz_8, by_8, ze_8, pl_8, es_8, u_9, ag_9, sz_9, by_9, ze_9, es_9, u_10, ag_10, sz_10, by_10, ze_10, es_10, u_26, ag_26, sz_26, by_26, ze_26, es_26, u_57, ag_57, sz_57, by_57, ze_57, es_57, u_63, f_63_0, f_63_1, f_63_2, f_63_3, f_63_4, f_63_5, f_63_6, f_63_7, f_63_8, f_63_9, f_63_10, ag_63, sz_63, by_63, ze_63, pl_63, es_63, ↓AW_loop, hbb, hbX, strmC, h1]
    exact ⟨hsame, Upd.refl _ _⟩
/-- The stream that sends next, and the end behind it. -/
def fillGo (m : MuxS) (f : Nat) : Nat → Nat → Option MuxS
  | 0, _ => none
  | r + 1, k => match m.streams[(f + k) % m.streams.length]? with
    | some s => if (chunkS s).1 ≠ [] then some { m with ready := (chunkS s).1, turn := s.id, streams := m.streams.set ((f + k) % m.streams.length) (chunkS s).2 } else fillGo m f r (k + 1)
    | none => none
def turnS (m : MuxS) : Nat := (ix (m.streams.map fun s => decide (m.turn < s.id)) 0).toNat
def fillS (m : MuxS) : Option MuxS := if m.control ≠ [] then some { m with ready := m.control, control := [] } else fillGo m (turnS m) m.streams.length 0
theorem fill1_q (m : MuxS) (s : Strm) {h : AHeap} {b c p : Nat} {sl : Value} (hb : blkA h b = some ⟨strmC s, 11, false⟩) (hp : blkA h p = some ⟨muxC m sl, 9, false⟩) (hc : blkA h c = some ⟨[ptrC p], 1, false⟩) : Quiet cx 44 [ptrC b, .pointer (some ⟨c, 0, none⟩)] h (.bool (decide (m.turn < s.id))) := by
  unfold ptrC
  refine FW_f Try.func44 rfl (by decide +kernel) ?_
  have e : decide ((m.turn : Int) < s.id) = decide (m.turn < s.id) := by congr 1; exact propext (by omega)
  simp -dsimp -implicitDefEqProofs (disch := first | omega | (simp only [stT, u_0, ag_0, sz_0, by_0, ze_0, es_0, u_3, ag_3, sz_3, by_3, ze_3, es_3, u_4, ag_4, sz_4, by_4, ze_4, bo_4, es_4, u_6, ag_6, sz_6, by_6, ze_6, u8_6, es_6, u_9, ag_9, sz_9, by_9, ze_9, es_9, u_26, ag_26, sz_26, by_26, ze_26, es_26, u_53, ag_53, sz_53, by_53, ze_53, es_53, u_55, f_55_0, f_55_1, f_55_2, f_55_3, f_55_4, f_55_5, f_55_6, f_55_7, f_55_8, ag_55, sz_55, by_55, ze_55, pl_55, es_55, u_57, ag_57, sz_57, by_57, ze_57, es_57, u_63, f_63_0, f_63_1, f_63_2, f_63_3, f_63_4, f_63_5, f_63_6, f_63_7, f_63_8, f_63_9, f_63_10, ag_63, sz_63, by_63, ze_63, pl_63, es_63]; done) | (simp only [List.append_assoc, List.cons_append, List.nil_append, pre_n, pre_c, pre_a, pre_g, pre_r]; done) | (simp only [List.length_set]; done) | (simp only [List.length_set]; omega) | assumption | decide +kernel | fail) only [↓RP, RQ, isConstA, Nat.reduceEqDiff, Nat.reduceLT, Nat.reduceAdd, Int.reduceNeg, Int.reduceLT, Int.reduceLE, Int.reduceToNat, Int.reduceEq, ↓reduceIte, ite_true, ite_false, Option.toList, Nat.reduceMul, Nat.reduceSub, Nat.reduceLeDiff, ne_eq, eq_self, u_0, ag_0, sz_0, by_0, ze_0, es_0, u_3, ag_3, sz_3, by_3, ze_3, es_3, u_4, ag_4, sz_4, by_4, ze_4, bo_4, es_4, u_6, ag_6, sz_6, by_6, ze_6, u8_6, es_6, u_9, ag_9, sz_9, by_9, ze_9, es_9, u_26, ag_26, sz_26, by_26, ze_26, es_26, u_53, ag_53, sz_53, by_53, ze_53, es_53, u_55, f_55_0, f_55_1, f_55_2, f_55_3, f_55_4, f_55_5, f_55_6, f_55_7, f_55_8, ag_55, sz_55, by_55, ze_55, pl_55, es_55, u_57, ag_57, sz_57, by_57, ze_57, es_57, u_63, f_63_0, f_63_1, f_63_2, f_63_3, f_63_4, f_63_5, f_63_6, f_63_7, f_63_8, f_63_9, f_63_10, ag_63, sz_63, by_63, ze_63, pl_63, es_63, ↓AW_loop, hb, hc, hp, ptrC, muxC, strmC, e]
  exact ⟨by decide +kernel, Ext.refl _⟩
theorem chunk_none {s : Strm} (h : (chunkS s).1 = []) : (chunkS s).2 = s := by
  unfold chunkS at h ⊢
  split
  · rfl
  · rename_i h1
    rw [if_neg h1] at h
    split
    · rename_i h2
      rw [if_pos h2] at h
      simp [frameS] at h
    · rename_i h2
      rw [if_neg h2] at h
      split
      · rename_i h3
        rw [if_pos h3] at h
        simp [frameS] at h
      · rfl
theorem chunk_id (s : Strm) : (chunkS s).2.id = s.id := by
  unfold chunkS
  repeat' split
  all_goals rfl
theorem MuxAt.idb {h : AHeap} {p : Nat} {sb : Option Nat} {ids : List Nat} {m : MuxS} (a : MuxAt h p sb ids m) {i : Nat} {s : Strm} (hs : m.streams[i]? = some s) : ∃ b, ids[i]? = some b ∧ blkA h b = some ⟨strmC s, 11, false⟩ := by
  obtain ⟨b, hib⟩ : ∃ b, ids[i]? = some b := ⟨_, List.getElem?_eq_getElem (by rw [a.len]; exact (List.getElem?_eq_some_iff.1 hs).1)⟩
  exact ⟨b, hib, a.str i s b hs hib⟩
theorem set_same {l : List Strm} {i : Nat} {s : Strm} (hs : l[i]? = some s) : l.set i s = l := by
  apply List.ext_getElem?
  intro j
  by_cases hij : i = j
  · subst hij; rw [List.getElem?_set_self (List.getElem?_eq_some_iff.1 hs).1, hs]
  · rw [List.getElem?_set_ne hij]
theorem fill_q (m : MuxS) {h : AHeap} {p : Nat} {sb : Option Nat} {ids : List Nat} (a : MuxAt h p sb ids m) (hl : ids.length < 2 ^ 40) (hw : ∀ s, s ∈ m.streams → s.window < 2 ^ 40 ∧ s.out.length < 2 ^ 40) :
    FW cx 30 [ptrC p] h fun v h' => v = .bool (fillS m).isSome ∧ MuxAt h' p sb ids ((fillS m).getD m) ∧ Upd h h' (foot p sb ids) (foot p sb ids) := by
  refine FW_f Try.func30 rfl (by decide +kernel) ?_
  have htX := fun X => blkA_app X a.top
  have hpl := a.lt
  unfold fillS
  by_cases hc : m.control = []
  · rw [if_neg (by simp [hc])]
    simp -dsimp -implicitDefEqProofs (disch := first | omega | (simp only [stT, u_0, ag_0, sz_0, by_0, ze_0, es_0, u_3, ag_3, sz_3, by_3, ze_3, es_3, u_4, ag_4, sz_4, by_4, ze_4, bo_4, es_4, u_5, ag_5, sz_5, by_5, ze_5, u8_5, es_5, u_6, ag_6, sz_6, by_6, ze_6, u8_6, es_6, u_9, ag_9, sz_9, by_9, ze_9, es_9, u_26, ag_26, sz_26, by_26, ze_26, es_26, u_53, ag_53, sz_53, by_53, ze_53, es_53, u_55, f_55_0, f_55_1, f_55_2, f_55_3, f_55_4, f_55_5, f_55_6, f_55_7, f_55_8, ag_55, sz_55, by_55, ze_55, pl_55, es_55, u_57, ag_57, sz_57, by_57, ze_57, es_57, u_63, f_63_0, f_63_1, f_63_2, f_63_3, f_63_4, f_63_5, f_63_6, f_63_7, f_63_8, f_63_9, f_63_10, ag_63, sz_63, by_63, ze_63, pl_63, es_63, u_83, ag_83, sz_83, by_83, ze_83, es_83]; done) | (simp only [List.append_assoc, List.cons_append, List.nil_append, pre_n, pre_c, pre_a, pre_g, pre_r]; done) | (simp only [List.length_set]; done) | (simp only [List.length_set]; omega) | assumption | decide +kernel | fail) only [↓RP, RQ, isConstA, Nat.reduceEqDiff, Nat.reduceLT, Nat.reduceAdd, Int.reduceNeg, Int.reduceLT, Int.reduceLE, Int.reduceToNat, Int.reduceEq, ↓reduceIte, ite_true, ite_false, Option.toList, Nat.reduceMul, Nat.reduceSub, Nat.reduceLeDiff, ne_eq, eq_self, u_0, ag_0, sz_0, by_0, ze_0, es_0, u_3, ag_3, sz_3, by_3, ze_3, es_3, u_4, ag_4, sz_4, by_4, ze_4, bo_4, es_4, u_5, ag_5, sz_5, by_5, ze_5, u8_5, es_5, u_6, ag_6, sz_6, by_6, ze_6, u8_6, es_6, u_9, ag_9, sz_9, by_9, ze_9, es_9, u_26, ag_26, sz_26, by_26, ze_26, es_26, u_53, ag_53, sz_53, by_53, ze_53, es_53, u_55, f_55_0, f_55_1, f_55_2, f_55_3, f_55_4, f_55_5, f_55_6, f_55_7, f_55_8, ag_55, sz_55, by_55, ze_55, pl_55, es_55, u_57, ag_57, sz_57, by_57, ze_57, es_57, u_63, f_63_0, f_63_1, f_63_2, f_63_3, f_63_4, f_63_5, f_63_6, f_63_7, f_63_8, f_63_9, f_63_10, ag_63, sz_63, by_63, ze_63, pl_63, es_63, u_83, ag_83, sz_83, by_83, ze_83, es_83, ↓AW_loop, htX, muxC, hc, ptrC]
    have hlen := a.len
    have a1 := a.app [some (.cells ⟨[ptrC p], 1, false⟩)]
    have hcb : blkA (h ++ [some (.cells ⟨[ptrC p], 1, false⟩)]) h.length = some ⟨[ptrC p], 1, false⟩ := blkA_new _ _
    refine (index_q 44 _ (m.streams.map fun s => decide (m.turn < s.id)) a1.sl (by rw [List.length_map]; exact hlen) hl ?_).use' fun g => ?_
    · intro i b v hb hv g
      obtain ⟨s, hs, rfl⟩ := mapget hv
      exact fill1_q m s (blkA_app g (a1.str i s b hs hb)) (blkA_app g a1.top) (blkA_app g hcb)
    · have hturn : (if (0 : Int) > ix (m.streams.map fun s => decide (m.turn < s.id)) 0 then (0 : Int) else ix (m.streams.map fun s => decide (m.turn < s.id)) 0) = ((turnS m : Nat) : Int) := by
        unfold turnS; split <;> omega
      generalize hix : ix (m.streams.map fun s => decide (m.turn < s.id)) 0 = first at hturn
      have hmax : foldA max2A (Value.int .i64 first) [.int .i64 0] = some (.int .i64 ((turnS m : Nat) : Int)) := by
        simp only [foldA, max2A, hturn]
      have htl : turnS m < 2 ^ 41 := by
        rcases ix_spec (m.streams.map fun s => decide (m.turn < s.id)) 0 with ⟨e, _⟩ | ⟨i, e, e2, _⟩
        · unfold turnS; rw [e]; decide
        · unfold turnS; rw [e]
          have := (List.getElem?_eq_some_iff.1 e2).1
          rw [List.length_map] at this
          omega
      simp -dsimp -implicitDefEqProofs (disch := first | omega | (simp only [stT, u_0, ag_0, sz_0, by_0, ze_0, es_0, u_3, ag_3, sz_3, by_3, ze_3, es_3, u_4, ag_4, sz_4, by_4, ze_4, bo_4, es_4, u_5, ag_5, sz_5, by_5, ze_5, u8_5, es_5, u_6, ag_6, sz_6, by_6, ze_6, u8_6, es_6, u_9, ag_9, sz_9, by_9, ze_9, es_9, u_26, ag_26, sz_26, by_26, ze_26, es_26, u_53, ag_53, sz_53, by_53, ze_53, es_53, u_55, f_55_0, f_55_1, f_55_2, f_55_3, f_55_4, f_55_5, f_55_6, f_55_7, f_55_8, ag_55, sz_55, by_55, ze_55, pl_55, es_55, u_57, ag_57, sz_57, by_57, ze_57, es_57, u_63, f_63_0, f_63_1, f_63_2, f_63_3, f_63_4, f_63_5, f_63_6, f_63_7, f_63_8, f_63_9, f_63_10, ag_63, sz_63, by_63, ze_63, pl_63, es_63, u_83, ag_83, sz_83, by_83, ze_83, es_83]; done) | (simp only [List.append_assoc, List.cons_append, List.nil_append, pre_n, pre_c, pre_a, pre_g, pre_r]; done) | (simp only [List.length_set]; done) | (simp only [List.length_set]; omega) | assumption | decide +kernel | fail) only [↓RP, RQ, isConstA, Nat.reduceEqDiff, Nat.reduceLT, Nat.reduceAdd, Int.reduceNeg, Int.reduceLT, Int.reduceLE, Int.reduceToNat, Int.reduceEq, ↓reduceIte, ite_true, ite_false, Option.toList, Nat.reduceMul, Nat.reduceSub, Nat.reduceLeDiff, ne_eq, eq_self, u_0, ag_0, sz_0, by_0, ze_0, es_0, u_3, ag_3, sz_3, by_3, ze_3, es_3, u_4, ag_4, sz_4, by_4, ze_4, bo_4, es_4, u_5, ag_5, sz_5, by_5, ze_5, u8_5, es_5, u_6, ag_6, sz_6, by_6, ze_6, u8_6, es_6, u_9, ag_9, sz_9, by_9, ze_9, es_9, u_26, ag_26, sz_26, by_26, ze_26, es_26, u_53, ag_53, sz_53, by_53, ze_53, es_53, u_55, f_55_0, f_55_1, f_55_2, f_55_3, f_55_4, f_55_5, f_55_6, f_55_7, f_55_8, ag_55, sz_55, by_55, ze_55, pl_55, es_55, u_57, ag_57, sz_57, by_57, ze_57, es_57, u_63, f_63_0, f_63_1, f_63_2, f_63_3, f_63_4, f_63_5, f_63_6, f_63_7, f_63_8, f_63_9, f_63_10, ag_63, sz_63, by_63, ze_63, pl_63, es_63, u_83, ag_83, sz_83, by_83, ze_83, es_83, ↓AW_loop, htX, muxC, ptrC]
      refine LW_rule (fun n fr h' => ∃ (k : Nat), k ≤ ids.length ∧ n = ids.length - k ∧ fget fr 33 = .int .i64 k ∧ fget fr 32 = .int .i64 ids.length ∧ fget fr 1 = .pointer (some ⟨h.length, 0, none⟩) ∧ fget fr 3 = .int .i64 first ∧
          MuxAt h' p sb ids m ∧ blkA h' h.length = some ⟨[ptrC p], 1, false⟩ ∧ Upd h h' (foot p sb ids) (foot p sb ids) ∧ fillGo m (turnS m) m.streams.length 0 = fillGo m (turnS m) (ids.length - k) k) ?_ ids.length _ _ ⟨0, by omega, rfl, ?_⟩
      · rintro n fr h' ⟨k, hk, hn, f33, f32, f1, f3, ah, hbx, hu, hgo⟩
        have htop := ah.top
        by_cases hlt : k < ids.length
        · have hlt' : (k : Int) < ids.length := by omega
          have hmod : ((turnS m : Nat) : Int) + (k : Int) = ((turnS m + k : Nat) : Int) := by omega
          have hmod2 : ((turnS m + k : Nat) : Int).tmod (ids.length : Int) = (((turnS m + k) % ids.length : Nat) : Int) := (Int.ofNat_tmod _ _).symm
          have hne0 : ¬ (ids.length : Int) = 0 := by omega
          have hj : (turnS m + k) % ids.length < ids.length := Nat.mod_lt _ (by omega)
          obtain ⟨s, hs⟩ : ∃ s, m.streams[(turnS m + k) % ids.length]? = some s := ⟨_, List.getElem?_eq_getElem (by omega)⟩
          obtain ⟨b, hib, hbb⟩ := ah.idb hs
          have hjI : (((turnS m + k) % ids.length : Nat) : Int) < ids.length := by omega
          rcases ah.sl with ⟨_, rfl⟩ | ⟨c, rfl, hc2⟩
          · simp at hlt
          · have hcell : (ids.map ptrC)[(turnS m + k) % ids.length]? = some (ptrC b) := by rw [List.getElem?_map, hib]; rfl
            simp -dsimp -implicitDefEqProofs (disch := first | omega | (simp only [stT, u_0, ag_0, sz_0, by_0, ze_0, es_0, u_3, ag_3, sz_3, by_3, ze_3, es_3, u_4, ag_4, sz_4, by_4, ze_4, bo_4, es_4, u_5, ag_5, sz_5, by_5, ze_5, u8_5, es_5, u_6, ag_6, sz_6, by_6, ze_6, u8_6, es_6, u_9, ag_9, sz_9, by_9, ze_9, es_9, u_26, ag_26, sz_26, by_26, ze_26, es_26, u_53, ag_53, sz_53, by_53, ze_53, es_53, u_55, f_55_0, f_55_1, f_55_2, f_55_3, f_55_4, f_55_5, f_55_6, f_55_7, f_55_8, ag_55, sz_55, by_55, ze_55, pl_55, es_55, u_57, ag_57, sz_57, by_57, ze_57, es_57, u_63, f_63_0, f_63_1, f_63_2, f_63_3, f_63_4, f_63_5, f_63_6, f_63_7, f_63_8, f_63_9, f_63_10, ag_63, sz_63, by_63, ze_63, pl_63, es_63, u_83, ag_83, sz_83, by_83, ze_83, es_83]; done) | (simp only [List.append_assoc, List.cons_append, List.nil_append, pre_n, pre_c, pre_a, pre_g, pre_r]; done) | (simp only [List.length_set]; done) | (simp only [List.length_set]; omega) | assumption | decide +kernel | fail) only [↓RP, RQ, isConstA, Nat.reduceEqDiff, Nat.reduceLT, Nat.reduceAdd, Int.reduceNeg, Int.reduceLT, Int.reduceLE, Int.reduceToNat, Int.reduceEq, ↓reduceIte, ite_true, ite_false, Option.toList, Nat.reduceMul, Nat.reduceSub, Nat.reduceLeDiff, ne_eq, eq_self, u_0, ag_0, sz_0, by_0, ze_0, es_0, u_3, ag_3, sz_3, by_3, ze_3, es_3, u_4, ag_4, sz_4, by_4, ze_4, bo_4, es_4, u_5, ag_5, sz_5, by_5, ze_5, u8_5, es_5, u_6, ag_6, sz_6, by_6, ze_6, u8_6, es_6, u_9, ag_9, sz_9, by_9, ze_9, es_9, u_26, ag_26, sz_26, by_26, ze_26, es_26, u_53, ag_53, sz_53, by_53, ze_53, es_53, u_55, f_55_0, f_55_1, f_55_2, f_55_3, f_55_4, f_55_5, f_55_6, f_55_7, f_55_8, ag_55, sz_55, by_55, ze_55, pl_55, es_55, u_57, ag_57, sz_57, by_57, ze_57, es_57, u_63, f_63_0, f_63_1, f_63_2, f_63_3, f_63_4, f_63_5, f_63_6, f_63_7, f_63_8, f_63_9, f_63_10, ag_63, sz_63, by_63, ze_63, pl_63, es_63, u_83, ag_83, sz_83, by_83, ze_83, es_83, ↓AW_loop, f33, f32, f1, f3, htop, hbx, hc2, hlt', muxC, ptrC, hmax, hmod, hmod2, hne0, hjI, hcell, slA, Option.map_some]
            refine ⟨by decide +kernel, ?_⟩
            (repeat (refine And.intro (by omega) ?_))
            have hmem := List.mem_of_getElem? hs
            have hs' := hs
            rw [hlen] at hs'
            refine FW.mono (chunk_q m _ s ah hs hib (hw s hmem).1 (hw s hmem).2) (fun v h1 hq => ?_)
            obtain ⟨rfl, a2, u2⟩ := hq
            have hbx2 : blkA h1 h.length = some ⟨[ptrC p], 1, false⟩ := by
              refine u2.blk (fun hmm => ?_) hbx
              exact Nat.lt_irrefl _ (a.fl _ hmm)
            by_cases hch : (chunkS s).1 = []
            · rw [hch]
              rw [chunk_none hch, set_same hs] at a2
              simp -dsimp -implicitDefEqProofs (disch := first | omega | (simp only [stT, u_0, ag_0, sz_0, by_0, ze_0, es_0, u_3, ag_3, sz_3, by_3, ze_3, es_3, u_4, ag_4, sz_4, by_4, ze_4, bo_4, es_4, u_5, ag_5, sz_5, by_5, ze_5, u8_5, es_5, u_6, ag_6, sz_6, by_6, ze_6, u8_6, es_6, u_9, ag_9, sz_9, by_9, ze_9, es_9, u_26, ag_26, sz_26, by_26, ze_26, es_26, u_53, ag_53, sz_53, by_53, ze_53, es_53, u_55, f_55_0, f_55_1, f_55_2, f_55_3, f_55_4, f_55_5, f_55_6, f_55_7, f_55_8, ag_55, sz_55, by_55, ze_55, pl_55, es_55, u_57, ag_57, sz_57, by_57, ze_57, es_57, u_63, f_63_0, f_63_1, f_63_2, f_63_3, f_63_4, f_63_5, f_63_6, f_63_7, f_63_8, f_63_9, f_63_10, ag_63, sz_63, by_63, ze_63, pl_63, es_63, u_83, ag_83, sz_83, by_83, ze_83, es_83]; done) | (simp only [List.append_assoc, List.cons_append, List.nil_append, pre_n, pre_c, pre_a, pre_g, pre_r]; done) | (simp only [List.length_set]; done) | (simp only [List.length_set]; omega) | assumption | decide +kernel | fail) only [↓RP, RQ, isConstA, Nat.reduceEqDiff, Nat.reduceLT, Nat.reduceAdd, Int.reduceNeg, Int.reduceLT, Int.reduceLE, Int.reduceToNat, Int.reduceEq, ↓reduceIte, ite_true, ite_false, Option.toList, Nat.reduceMul, Nat.reduceSub, Nat.reduceLeDiff, ne_eq, eq_self, u_0, ag_0, sz_0, by_0, ze_0, es_0, u_3, ag_3, sz_3, by_3, ze_3, es_3, u_4, ag_4, sz_4, by_4, ze_4, bo_4, es_4, u_5, ag_5, sz_5, by_5, ze_5, u8_5, es_5, u_6, ag_6, sz_6, by_6, ze_6, u8_6, es_6, u_9, ag_9, sz_9, by_9, ze_9, es_9, u_26, ag_26, sz_26, by_26, ze_26, es_26, u_53, ag_53, sz_53, by_53, ze_53, es_53, u_55, f_55_0, f_55_1, f_55_2, f_55_3, f_55_4, f_55_5, f_55_6, f_55_7, f_55_8, ag_55, sz_55, by_55, ze_55, pl_55, es_55, u_57, ag_57, sz_57, by_57, ze_57, es_57, u_63, f_63_0, f_63_1, f_63_2, f_63_3, f_63_4, f_63_5, f_63_6, f_63_7, f_63_8, f_63_9, f_63_10, ag_63, sz_63, by_63, ze_63, pl_63, es_63, u_83, ag_83, sz_83, by_83, ze_83, es_83, ↓AW_loop, f33, f32, f1, f3]
              rw [show ids.length - k = (ids.length - (k + 1)) + 1 by omega, fillGo, hs'] at hgo
              simp only [hch, ne_eq, not_true_eq_false, if_false] at hgo
              exact ⟨ids.length - (k + 1), by omega, k + 1, by omega, rfl, by congr 1, a2, hbx2, hu.trans u2, hgo⟩
            · have hchl : ¬ (chunkS s).1.length = 0 := fun e => hch (List.length_eq_zero_iff.1 e)
              have htop2 := a2.top
              have hbb2 := a2.str ((turnS m + k) % ids.length) (chunkS s).2 b (by simp only; rw [List.getElem?_set_self (by rw [← hlen]; exact hj)]) hib
              simp -dsimp -implicitDefEqProofs (disch := first | omega | (simp only [stT, u_0, ag_0, sz_0, by_0, ze_0, es_0, u_3, ag_3, sz_3, by_3, ze_3, es_3, u_4, ag_4, sz_4, by_4, ze_4, bo_4, es_4, u_5, ag_5, sz_5, by_5, ze_5, u8_5, es_5, u_6, ag_6, sz_6, by_6, ze_6, u8_6, es_6, u_9, ag_9, sz_9, by_9, ze_9, es_9, u_26, ag_26, sz_26, by_26, ze_26, es_26, u_53, ag_53, sz_53, by_53, ze_53, es_53, u_55, f_55_0, f_55_1, f_55_2, f_55_3, f_55_4, f_55_5, f_55_6, f_55_7, f_55_8, ag_55, sz_55, by_55, ze_55, pl_55, es_55, u_57, ag_57, sz_57, by_57, ze_57, es_57, u_63, f_63_0, f_63_1, f_63_2, f_63_3, f_63_4, f_63_5, f_63_6, f_63_7, f_63_8, f_63_9, f_63_10, ag_63, sz_63, by_63, ze_63, pl_63, es_63, u_83, ag_83, sz_83, by_83, ze_83, es_83]; done) | (simp only [List.append_assoc, List.cons_append, List.nil_append, pre_n, pre_c, pre_a, pre_g, pre_r]; done) | (simp only [List.length_set]; done) | (simp only [List.length_set]; omega) | assumption | decide +kernel | fail) only [↓RP, RQ, isConstA, Nat.reduceEqDiff, Nat.reduceLT, Nat.reduceAdd, Int.reduceNeg, Int.reduceLT, Int.reduceLE, Int.reduceToNat, Int.reduceEq, ↓reduceIte, ite_true, ite_false, Option.toList, Nat.reduceMul, Nat.reduceSub, Nat.reduceLeDiff, ne_eq, eq_self, u_0, ag_0, sz_0, by_0, ze_0, es_0, u_3, ag_3, sz_3, by_3, ze_3, es_3, u_4, ag_4, sz_4, by_4, ze_4, bo_4, es_4, u_5, ag_5, sz_5, by_5, ze_5, u8_5, es_5, u_6, ag_6, sz_6, by_6, ze_6, u8_6, es_6, u_9, ag_9, sz_9, by_9, ze_9, es_9, u_26, ag_26, sz_26, by_26, ze_26, es_26, u_53, ag_53, sz_53, by_53, ze_53, es_53, u_55, f_55_0, f_55_1, f_55_2, f_55_3, f_55_4, f_55_5, f_55_6, f_55_7, f_55_8, ag_55, sz_55, by_55, ze_55, pl_55, es_55, u_57, ag_57, sz_57, by_57, ze_57, es_57, u_63, f_63_0, f_63_1, f_63_2, f_63_3, f_63_4, f_63_5, f_63_6, f_63_7, f_63_8, f_63_9, f_63_10, ag_63, sz_63, by_63, ze_63, pl_63, es_63, u_83, ag_83, sz_83, by_83, ze_83, es_83, ↓AW_loop, f33, f32, f1, f3, hbx2, htop2, hbb2, strmC, chunk_id, hch, muxC, ptrC]
              refine ⟨by decide +kernel, ?_⟩
              refine DQ_fx1 (t := 26) (u := 1) (v := .pointer (some ⟨h.length, 0, none⟩)) (by kernel_rfl) (by simp -dsimp -implicitDefEqProofs (disch := first | omega | (simp only [stT, u_0, ag_0, sz_0, by_0, ze_0, es_0, u_3, ag_3, sz_3, by_3, ze_3, es_3, u_4, ag_4, sz_4, by_4, ze_4, bo_4, es_4, u_5, ag_5, sz_5, by_5, ze_5, u8_5, es_5, u_6, ag_6, sz_6, by_6, ze_6, u8_6, es_6, u_9, ag_9, sz_9, by_9, ze_9, es_9, u_26, ag_26, sz_26, by_26, ze_26, es_26, u_53, ag_53, sz_53, by_53, ze_53, es_53, u_55, f_55_0, f_55_1, f_55_2, f_55_3, f_55_4, f_55_5, f_55_6, f_55_7, f_55_8, ag_55, sz_55, by_55, ze_55, pl_55, es_55, u_57, ag_57, sz_57, by_57, ze_57, es_57, u_63, f_63_0, f_63_1, f_63_2, f_63_3, f_63_4, f_63_5, f_63_6, f_63_7, f_63_8, f_63_9, f_63_10, ag_63, sz_63, by_63, ze_63, pl_63, es_63, u_83, ag_83, sz_83, by_83, ze_83, es_83]; done) | (simp only [List.append_assoc, List.cons_append, List.nil_append, pre_n, pre_c, pre_a, pre_g, pre_r]; done) | (simp only [List.length_set]; done) | (simp only [List.length_set]; omega) | assumption | decide +kernel | fail) only [↓RP, RQ, isConstA, Nat.reduceEqDiff, Nat.reduceLT, Nat.reduceAdd, Int.reduceNeg, Int.reduceLT, Int.reduceLE, Int.reduceToNat, Int.reduceEq, ↓reduceIte, ite_true, ite_false, Option.toList, Nat.reduceMul, Nat.reduceSub, Nat.reduceLeDiff, ne_eq, eq_self, u_0, ag_0, sz_0, by_0, ze_0, es_0, u_3, ag_3, sz_3, by_3, ze_3, es_3, u_4, ag_4, sz_4, by_4, ze_4, bo_4, es_4, u_5, ag_5, sz_5, by_5, ze_5, u8_5, es_5, u_6, ag_6, sz_6, by_6, ze_6, u8_6, es_6, u_9, ag_9, sz_9, by_9, ze_9, es_9, u_26, ag_26, sz_26, by_26, ze_26, es_26, u_53, ag_53, sz_53, by_53, ze_53, es_53, u_55, f_55_0, f_55_1, f_55_2, f_55_3, f_55_4, f_55_5, f_55_6, f_55_7, f_55_8, ag_55, sz_55, by_55, ze_55, pl_55, es_55, u_57, ag_57, sz_57, by_57, ze_57, es_57, u_63, f_63_0, f_63_1, f_63_2, f_63_3, f_63_4, f_63_5, f_63_6, f_63_7, f_63_8, f_63_9, f_63_10, ag_63, sz_63, by_63, ze_63, pl_63, es_63, u_83, ag_83, sz_83, by_83, ze_83, es_83, ↓AW_loop, f33, f32, f1, f3]) ?_ ?_
              · rw [loadA_eq, loadA_eq, blk_setN0 (by omega)]
              · have hset : ∀ X, blkA (h1.set p (some (.cells X))) p = some X := fun X => blk_setB0 a2.lt
                simp -dsimp -implicitDefEqProofs (disch := first | omega | (simp only [stT, u_0, ag_0, sz_0, by_0, ze_0, es_0, u_3, ag_3, sz_3, by_3, ze_3, es_3, u_4, ag_4, sz_4, by_4, ze_4, bo_4, es_4, u_5, ag_5, sz_5, by_5, ze_5, u8_5, es_5, u_6, ag_6, sz_6, by_6, ze_6, u8_6, es_6, u_9, ag_9, sz_9, by_9, ze_9, es_9, u_26, ag_26, sz_26, by_26, ze_26, es_26, u_53, ag_53, sz_53, by_53, ze_53, es_53, u_55, f_55_0, f_55_1, f_55_2, f_55_3, f_55_4, f_55_5, f_55_6, f_55_7, f_55_8, ag_55, sz_55, by_55, ze_55, pl_55, es_55, u_57, ag_57, sz_57, by_57, ze_57, es_57, u_63, f_63_0, f_63_1, f_63_2, f_63_3, f_63_4, f_63_5, f_63_6, f_63_7, f_63_8, f_63_9, f_63_10, ag_63, sz_63, by_63, ze_63, pl_63, es_63, u_83, ag_83, sz_83, by_83, ze_83, es_83]; done) | (simp only [List.append_assoc, List.cons_append, List.nil_append, pre_n, pre_c, pre_a, pre_g, pre_r]; done) | (simp only [List.length_set]; done) | (simp only [List.length_set]; omega) | assumption | decide +kernel | fail) only [↓RP, RQ, isConstA, Nat.reduceEqDiff, Nat.reduceLT, Nat.reduceAdd, Int.reduceNeg, Int.reduceLT, Int.reduceLE, Int.reduceToNat, Int.reduceEq, ↓reduceIte, ite_true, ite_false, Option.toList, Nat.reduceMul, Nat.reduceSub, Nat.reduceLeDiff, ne_eq, eq_self, u_0, ag_0, sz_0, by_0, ze_0, es_0, u_3, ag_3, sz_3, by_3, ze_3, es_3, u_4, ag_4, sz_4, by_4, ze_4, bo_4, es_4, u_5, ag_5, sz_5, by_5, ze_5, u8_5, es_5, u_6, ag_6, sz_6, by_6, ze_6, u8_6, es_6, u_9, ag_9, sz_9, by_9, ze_9, es_9, u_26, ag_26, sz_26, by_26, ze_26, es_26, u_53, ag_53, sz_53, by_53, ze_53, es_53, u_55, f_55_0, f_55_1, f_55_2, f_55_3, f_55_4, f_55_5, f_55_6, f_55_7, f_55_8, ag_55, sz_55, by_55, ze_55, pl_55, es_55, u_57, ag_57, sz_57, by_57, ze_57, es_57, u_63, f_63_0, f_63_1, f_63_2, f_63_3, f_63_4, f_63_5, f_63_6, f_63_7, f_63_8, f_63_9, f_63_10, ag_63, sz_63, by_63, ze_63, pl_63, es_63, u_83, ag_83, sz_83, by_83, ze_83, es_83, ↓AW_loop, f33, f32, f1, f3, hset]
                rw [show ids.length - k = (ids.length - (k + 1)) + 1 by omega, fillGo, hs'] at hgo
                simp only [hch, ne_eq, not_false_eq_true, if_true] at hgo
                rw [hgo]
                rw [hlen] at a2
                have a3 := a2.setTop (m' := { m with ready := (chunkS s).1, turn := s.id, streams := m.streams.set ((turnS m + k) % m.streams.length) (chunkS s).2 }) rfl
                rw [hlen] at a3
                rw [hlen]
                exact ⟨rfl, a3, (hu.trans u2).set (by simp [foot])⟩
        · simp -dsimp -implicitDefEqProofs (disch := first | omega | (simp only [stT, u_0, ag_0, sz_0, by_0, ze_0, es_0, u_3, ag_3, sz_3, by_3, ze_3, es_3, u_4, ag_4, sz_4, by_4, ze_4, bo_4, es_4, u_5, ag_5, sz_5, by_5, ze_5, u8_5, es_5, u_6, ag_6, sz_6, by_6, ze_6, u8_6, es_6, u_9, ag_9, sz_9, by_9, ze_9, es_9, u_26, ag_26, sz_26, by_26, ze_26, es_26, u_53, ag_53, sz_53, by_53, ze_53, es_53, u_55, f_55_0, f_55_1, f_55_2, f_55_3, f_55_4, f_55_5, f_55_6, f_55_7, f_55_8, ag_55, sz_55, by_55, ze_55, pl_55, es_55, u_57, ag_57, sz_57, by_57, ze_57, es_57, u_63, f_63_0, f_63_1, f_63_2, f_63_3, f_63_4, f_63_5, f_63_6, f_63_7, f_63_8, f_63_9, f_63_10, ag_63, sz_63, by_63, ze_63, pl_63, es_63, u_83, ag_83, sz_83, by_83, ze_83, es_83]; done) | (simp only [List.append_assoc, List.cons_append, List.nil_append, pre_n, pre_c, pre_a, pre_g, pre_r]; done) | (simp only [List.length_set]; done) | (simp only [List.length_set]; omega) | assumption | decide +kernel | fail) only [↓RP, RQ, isConstA, Nat.reduceEqDiff, Nat.reduceLT, Nat.reduceAdd, Int.reduceNeg, Int.reduceLT, Int.reduceLE, Int.reduceToNat, Int.reduceEq, ↓reduceIte, ite_true, ite_false, Option.toList, Nat.reduceMul, Nat.reduceSub, Nat.reduceLeDiff, ne_eq, eq_self, u_0, ag_0, sz_0, by_0, ze_0, es_0, u_3, ag_3, sz_3, by_3, ze_3, es_3, u_4, ag_4, sz_4, by_4, ze_4, bo_4, es_4, u_5, ag_5, sz_5, by_5, ze_5, u8_5, es_5, u_6, ag_6, sz_6, by_6, ze_6, u8_6, es_6, u_9, ag_9, sz_9, by_9, ze_9, es_9, u_26, ag_26, sz_26, by_26, ze_26, es_26, u_53, ag_53, sz_53, by_53, ze_53, es_53, u_55, f_55_0, f_55_1, f_55_2, f_55_3, f_55_4, f_55_5, f_55_6, f_55_7, f_55_8, ag_55, sz_55, by_55, ze_55, pl_55, es_55, u_57, ag_57, sz_57, by_57, ze_57, es_57, u_63, f_63_0, f_63_1, f_63_2, f_63_3, f_63_4, f_63_5, f_63_6, f_63_7, f_63_8, f_63_9, f_63_10, ag_63, sz_63, by_63, ze_63, pl_63, es_63, u_83, ag_83, sz_83, by_83, ze_83, es_83, ↓AW_loop, f33, f32]
          rw [if_neg (by omega), hgo, show ids.length - k = 0 by omega, fillGo]
          exact ⟨rfl, ah, hu⟩
      · simp -dsimp -implicitDefEqProofs (disch := first | omega | (simp only [stT, u_0, ag_0, sz_0, by_0, ze_0, es_0, u_3, ag_3, sz_3, by_3, ze_3, es_3, u_4, ag_4, sz_4, by_4, ze_4, bo_4, es_4, u_5, ag_5, sz_5, by_5, ze_5, u8_5, es_5, u_6, ag_6, sz_6, by_6, ze_6, u8_6, es_6, u_9, ag_9, sz_9, by_9, ze_9, es_9, u_26, ag_26, sz_26, by_26, ze_26, es_26, u_53, ag_53, sz_53, by_53, ze_53, es_53, u_55, f_55_0, f_55_1, f_55_2, f_55_3, f_55_4, f_55_5, f_55_6, f_55_7, f_55_8, ag_55, sz_55, by_55, ze_55, pl_55, es_55, u_57, ag_57, sz_57, by_57, ze_57, es_57, u_63, f_63_0, f_63_1, f_63_2, f_63_3, f_63_4, f_63_5, f_63_6, f_63_7, f_63_8, f_63_9, f_63_10, ag_63, sz_63, by_63, ze_63, pl_63, es_63, u_83, ag_83, sz_83, by_83, ze_83, es_83]; done) | (simp only [List.append_assoc, List.cons_append, List.nil_append, pre_n, pre_c, pre_a, pre_g, pre_r]; done) | (simp only [List.length_set]; done) | (simp only [List.length_set]; omega) | assumption | decide +kernel | fail) only [↓RP, RQ, isConstA, Nat.reduceEqDiff, Nat.reduceLT, Nat.reduceAdd, Int.reduceNeg, Int.reduceLT, Int.reduceLE, Int.reduceToNat, Int.reduceEq, ↓reduceIte, ite_true, ite_false, Option.toList, Nat.reduceMul, Nat.reduceSub, Nat.reduceLeDiff, ne_eq, eq_self, u_0, ag_0, sz_0, by_0, ze_0, es_0, u_3, ag_3, sz_3, by_3, ze_3, es_3, u_4, ag_4, sz_4, by_4, ze_4, bo_4, es_4, u_5, ag_5, sz_5, by_5, ze_5, u8_5, es_5, u_6, ag_6, sz_6, by_6, ze_6, u8_6, es_6, u_9, ag_9, sz_9, by_9, ze_9, es_9, u_26, ag_26, sz_26, by_26, ze_26, es_26, u_53, ag_53, sz_53, by_53, ze_53, es_53, u_55, f_55_0, f_55_1, f_55_2, f_55_3, f_55_4, f_55_5, f_55_6, f_55_7, f_55_8, ag_55, sz_55, by_55, ze_55, pl_55, es_55, u_57, ag_57, sz_57, by_57, ze_57, es_57, u_63, f_63_0, f_63_1, f_63_2, f_63_3, f_63_4, f_63_5, f_63_6, f_63_7, f_63_8, f_63_9, f_63_10, ag_63, sz_63, by_63, ze_63, pl_63, es_63, u_83, ag_83, sz_83, by_83, ze_83, es_83, ↓AW_loop]
        have e1 := a1.app g
        have e2 := blkA_app g hcb
        have e3 := ((Upd.app h [some (.cells ⟨[ptrC p], 1, false⟩)] (foot p sb ids)).trans (Upd.app _ g _))
        simp only [ptrC, List.append_assoc, List.cons_append, List.nil_append] at e1 e2 e3
        and_intros
        all_goals first
          | exact e1
          | exact e2
          | exact e3
          | (rw [hlen])
          | rfl
  · rw [if_pos hc]
    simp -dsimp -implicitDefEqProofs (disch := first | omega | (simp only [stT, u_0, ag_0, sz_0, by_0, ze_0, es_0, u_3, ag_3, sz_3, by_3, ze_3, es_3, u_4, ag_4, sz_4, by_4, ze_4, bo_4, es_4, u_5, ag_5, sz_5, by_5, ze_5, u8_5, es_5, u_6, ag_6, sz_6, by_6, ze_6, u8_6, es_6, u_9, ag_9, sz_9, by_9, ze_9, es_9, u_26, ag_26, sz_26, by_26, ze_26, es_26, u_53, ag_53, sz_53, by_53, ze_53, es_53, u_55, f_55_0, f_55_1, f_55_2, f_55_3, f_55_4, f_55_5, f_55_6, f_55_7, f_55_8, ag_55, sz_55, by_55, ze_55, pl_55, es_55, u_57, ag_57, sz_57, by_57, ze_57, es_57, u_63, f_63_0, f_63_1, f_63_2, f_63_3, f_63_4, f_63_5, f_63_6, f_63_7, f_63_8, f_63_9, f_63_10, ag_63, sz_63, by_63, ze_63, pl_63, es_63, u_83, ag_83, sz_83, by_83, ze_83, es_83]; done) | (simp only [List.append_assoc, List.cons_append, List.nil_append, pre_n, pre_c, pre_a, pre_g, pre_r]; done) | (simp only [List.length_set]; done) | (simp only [List.length_set]; omega) | assumption | decide +kernel | fail) only [↓RP, RQ, isConstA, Nat.reduceEqDiff, Nat.reduceLT, Nat.reduceAdd, Int.reduceNeg, Int.reduceLT, Int.reduceLE, Int.reduceToNat, Int.reduceEq, ↓reduceIte, ite_true, ite_false, Option.toList, Nat.reduceMul, Nat.reduceSub, Nat.reduceLeDiff, ne_eq, eq_self, u_0, ag_0, sz_0, by_0, ze_0, es_0, u_3, ag_3, sz_3, by_3, ze_3, es_3, u_4, ag_4, sz_4, by_4, ze_4, bo_4, es_4, u_5, ag_5, sz_5, by_5, ze_5, u8_5, es_5, u_6, ag_6, sz_6, by_6, ze_6, u8_6, es_6, u_9, ag_9, sz_9, by_9, ze_9, es_9, u_26, ag_26, sz_26, by_26, ze_26, es_26, u_53, ag_53, sz_53, by_53, ze_53, es_53, u_55, f_55_0, f_55_1, f_55_2, f_55_3, f_55_4, f_55_5, f_55_6, f_55_7, f_55_8, ag_55, sz_55, by_55, ze_55, pl_55, es_55, u_57, ag_57, sz_57, by_57, ze_57, es_57, u_63, f_63_0, f_63_1, f_63_2, f_63_3, f_63_4, f_63_5, f_63_6, f_63_7, f_63_8, f_63_9, f_63_10, ag_63, sz_63, by_63, ze_63, pl_63, es_63, u_83, ag_83, sz_83, by_83, ze_83, es_83, ↓AW_loop, htX, muxC, hc, ptrC]
    refine ⟨by decide +kernel, ?_⟩
    refine DQ_fx1 (t := 26) (u := 1) (v := .pointer (some ⟨h.length, 0, none⟩)) (by kernel_rfl) (by simp -dsimp -implicitDefEqProofs (disch := first | omega | (simp only [stT, u_0, ag_0, sz_0, by_0, ze_0, es_0, u_3, ag_3, sz_3, by_3, ze_3, es_3, u_4, ag_4, sz_4, by_4, ze_4, bo_4, es_4, u_5, ag_5, sz_5, by_5, ze_5, u8_5, es_5, u_6, ag_6, sz_6, by_6, ze_6, u8_6, es_6, u_9, ag_9, sz_9, by_9, ze_9, es_9, u_26, ag_26, sz_26, by_26, ze_26, es_26, u_53, ag_53, sz_53, by_53, ze_53, es_53, u_55, f_55_0, f_55_1, f_55_2, f_55_3, f_55_4, f_55_5, f_55_6, f_55_7, f_55_8, ag_55, sz_55, by_55, ze_55, pl_55, es_55, u_57, ag_57, sz_57, by_57, ze_57, es_57, u_63, f_63_0, f_63_1, f_63_2, f_63_3, f_63_4, f_63_5, f_63_6, f_63_7, f_63_8, f_63_9, f_63_10, ag_63, sz_63, by_63, ze_63, pl_63, es_63, u_83, ag_83, sz_83, by_83, ze_83, es_83]; done) | (simp only [List.append_assoc, List.cons_append, List.nil_append, pre_n, pre_c, pre_a, pre_g, pre_r]; done) | (simp only [List.length_set]; done) | (simp only [List.length_set]; omega) | assumption | decide +kernel | fail) only [↓RP, RQ, isConstA, Nat.reduceEqDiff, Nat.reduceLT, Nat.reduceAdd, Int.reduceNeg, Int.reduceLT, Int.reduceLE, Int.reduceToNat, Int.reduceEq, ↓reduceIte, ite_true, ite_false, Option.toList, Nat.reduceMul, Nat.reduceSub, Nat.reduceLeDiff, ne_eq, eq_self, u_0, ag_0, sz_0, by_0, ze_0, es_0, u_3, ag_3, sz_3, by_3, ze_3, es_3, u_4, ag_4, sz_4, by_4, ze_4, bo_4, es_4, u_5, ag_5, sz_5, by_5, ze_5, u8_5, es_5, u_6, ag_6, sz_6, by_6, ze_6, u8_6, es_6, u_9, ag_9, sz_9, by_9, ze_9, es_9, u_26, ag_26, sz_26, by_26, ze_26, es_26, u_53, ag_53, sz_53, by_53, ze_53, es_53, u_55, f_55_0, f_55_1, f_55_2, f_55_3, f_55_4, f_55_5, f_55_6, f_55_7, f_55_8, ag_55, sz_55, by_55, ze_55, pl_55, es_55, u_57, ag_57, sz_57, by_57, ze_57, es_57, u_63, f_63_0, f_63_1, f_63_2, f_63_3, f_63_4, f_63_5, f_63_6, f_63_7, f_63_8, f_63_9, f_63_10, ag_63, sz_63, by_63, ze_63, pl_63, es_63, u_83, ag_83, sz_83, by_83, ze_83, es_83, ↓AW_loop]) ?_ ?_
    · rw [loadA_eq, loadA_eq, blk_atH0 rfl, blk_atH0 (by rw [List.length_set])]
    · exact ⟨(a.setTop (m' := { m with ready := m.control, control := [] }) rfl).app _, ((Upd.refl h (foot p sb ids)).set (by simp [foot])).more _⟩
end Go.Abs
/- Mx5: the walk of Out. Conditions: none. -/
set_option maxRecDepth 100000
set_option linter.unusedSimpArgs false
set_option linter.unusedVariables false
namespace Go.Abs
open Go.Proofs
/-- The bytes of an end, one after the other. -/
def outB : Nat → MuxS → List UInt8 × MuxS
  | 0, m => ([], m)
  | k + 1, m => match (if m.ready ≠ [] then some m else fillS m) with
    | none => ([], m)
    | some m1 => match m1.ready with
      | [] => ([], m1)
      | c :: r => (c :: (outB k { m1 with ready := r }).1, (outB k { m1 with ready := r }).2)
def MB (m : MuxS) : Prop := m.broken = false ∧ m.control.length < 2 ^ 40 ∧ m.ready.length < 2 ^ 40 ∧ ∀ s, s ∈ m.streams → s.window < 2 ^ 40 ∧ s.out.length < 2 ^ 40
theorem chunk_le (s : Strm) : (chunkS s).2.window ≤ s.window ∧ (chunkS s).2.out.length ≤ s.out.length ∧ (chunkS s).1.length ≤ 69 := by
  unfold chunkS
  split
  · simp
  · split
    · simp only [frameS_len, List.length_take, List.length_drop, most64]
      omega
    · split
      · simp [frameS]
      · simp
theorem fillGo_spec (m : MuxS) (f : Nat) : ∀ (r k : Nat) m1, fillGo m f r k = some m1 → ∃ (i : Nat) (s : Strm), m.streams[i]? = some s ∧ (chunkS s).1 ≠ [] ∧ m1 = { m with ready := (chunkS s).1, turn := s.id, streams := m.streams.set i (chunkS s).2 } := by
  intro r
  induction r with
  | zero => intro k m1 h; simp [fillGo] at h
  | succ r ih =>
    intro k m1 h
    rw [fillGo] at h
    split at h
    · rename_i s hs
      split at h
      · rename_i hc
        exact ⟨_, s, hs, hc, (Option.some.inj h).symm⟩
      · exact ih _ _ h
    · simp at h
theorem fillS_spec {m m1 : MuxS} (h : fillS m = some m1) : (m.control ≠ [] ∧ m1 = { m with ready := m.control, control := [] }) ∨ (m.control = [] ∧ ∃ (i : Nat) (s : Strm), m.streams[i]? = some s ∧ (chunkS s).1 ≠ [] ∧ m1 = { m with ready := (chunkS s).1, turn := s.id, streams := m.streams.set i (chunkS s).2 }) := by
  unfold fillS at h
  split at h
  · rename_i hc; exact .inl ⟨hc, (Option.some.inj h).symm⟩
  · rename_i hc; exact .inr ⟨by simpa using hc, fillGo_spec m _ _ _ _ h⟩
theorem fillS_ready {m m1 : MuxS} (h : fillS m = some m1) : m1.ready ≠ [] := by
  rcases fillS_spec h with ⟨hc, rfl⟩ | ⟨_, i, s, _, hc, rfl⟩ <;> exact hc
theorem fillS_MB {m m1 : MuxS} (h : fillS m = some m1) (hb : MB m) : MB m1 := by
  obtain ⟨b1, b2, b3, b4⟩ := hb
  rcases fillS_spec h with ⟨hc, rfl⟩ | ⟨_, i, s, hs, hc, rfl⟩
  · exact ⟨b1, by simp, b2, b4⟩
  · have hle := chunk_le s
    refine ⟨b1, b2, by simp only; omega, fun t ht => ?_⟩
    simp only at ht
    rcases List.mem_or_eq_of_mem_set ht with ht | rfl
    · exact b4 t ht
    · have := b4 s (List.mem_of_getElem? hs)
      omega
theorem outB_fill {m m1 : MuxS} {k : Nat} (hr : m.ready = []) (h : fillS m = some m1) : outB (k + 1) m = outB (k + 1) m1 := by
  have h1 := fillS_ready h
  rw [outB, outB, if_neg (by simp [hr]), if_pos h1, h]
theorem outB_none {m : MuxS} (k : Nat) (hr : m.ready = []) (h : fillS m = none) : outB k m = ([], m) := by
  cases k with
  | zero => rfl
  | succ k => rw [outB, if_neg (by simp [hr]), h]
theorem outB_take : ∀ (n k : Nat) (m : MuxS), n ≤ m.ready.length → outB (n + k) m = (m.ready.take n ++ (outB k { m with ready := m.ready.drop n }).1, (outB k { m with ready := m.ready.drop n }).2) := by
  intro n
  induction n with
  | zero => intro k m _; simp
  | succ n ih =>
    intro k m h
    rw [show n + 1 + k = (n + k) + 1 by omega, outB]
    cases hr : m.ready with
    | nil => rw [hr] at h; simp at h
    | cons c r =>
      rw [if_pos (by simp)]
      simp only [hr]
      have := ih k { m with ready := r } (by rw [hr] at h; simpa using h)
      rw [this]
      simp
theorem GW_u {w : Bool} {T F : Prop} : GW undef w T F = F := rfl
theorem out_q (m : MuxS) (most : Nat) (hmost : most < 2 ^ 40) {h : AHeap} {p : Nat} {sb : Option Nat} {ids : List Nat} (a : MuxAt h p sb ids m) (hl : ids.length < 2 ^ 40) (hb : MB m) :
    FW cx 14 [ptrC p, .int .i64 most] h fun v h' => v = .string (str (outB most m).1) ∧ MuxAt h' p sb ids (outB most m).2 ∧ Upd h h' (foot p sb ids) (foot p sb ids) := by
  refine FW_f Try.func14 rfl (by decide +kernel) ?_
  simp -dsimp -implicitDefEqProofs (disch := first | omega | (simp only [stT, u_2, ag_2, sz_2, by_2, ze_2, es_2, u_3, ag_3, sz_3, by_3, ze_3, es_3, u_4, ag_4, sz_4, by_4, ze_4, bo_4, es_4, u_5, ag_5, sz_5, by_5, ze_5, u8_5, es_5, u_6, ag_6, sz_6, by_6, ze_6, u8_6, es_6, u_8, f_8_0, f_8_1, f_8_2, f_8_3, ag_8, sz_8, by_8, ze_8, pl_8, es_8, u_9, ag_9, sz_9, by_9, ze_9, es_9, u_26, ag_26, sz_26, by_26, ze_26, es_26, u_53, ag_53, sz_53, by_53, ze_53, es_53, u_55, f_55_0, f_55_1, f_55_2, f_55_3, f_55_4, f_55_5, f_55_6, f_55_7, f_55_8, ag_55, sz_55, by_55, ze_55, pl_55, es_55, u_57, ag_57, sz_57, by_57, ze_57, es_57]; done) | (simp only [List.append_assoc, List.cons_append, List.nil_append, pre_n, pre_c, pre_a, pre_g, pre_r]; done) | (simp only [List.length_set]; done) | (simp only [List.length_set]; omega) | assumption | decide +kernel | fail) only [↓RP, RQ, isConstA, Nat.reduceEqDiff, Nat.reduceLT, Nat.reduceAdd, Int.reduceNeg, Int.reduceLT, Int.reduceLE, Int.reduceToNat, Int.reduceEq, ↓reduceIte, ite_true, ite_false, Option.toList, Nat.reduceMul, Nat.reduceSub, Nat.reduceLeDiff, ne_eq, eq_self, u_2, ag_2, sz_2, by_2, ze_2, es_2, u_3, ag_3, sz_3, by_3, ze_3, es_3, u_4, ag_4, sz_4, by_4, ze_4, bo_4, es_4, u_5, ag_5, sz_5, by_5, ze_5, u8_5, es_5, u_6, ag_6, sz_6, by_6, ze_6, u8_6, es_6, u_8, f_8_0, f_8_1, f_8_2, f_8_3, ag_8, sz_8, by_8, ze_8, pl_8, es_8, u_9, ag_9, sz_9, by_9, ze_9, es_9, u_26, ag_26, sz_26, by_26, ze_26, es_26, u_53, ag_53, sz_53, by_53, ze_53, es_53, u_55, f_55_0, f_55_1, f_55_2, f_55_3, f_55_4, f_55_5, f_55_6, f_55_7, f_55_8, ag_55, sz_55, by_55, ze_55, pl_55, es_55, u_57, ag_57, sz_57, by_57, ze_57, es_57, ↓AW_loop, ptrC]
  refine LW_rule (fun n fr h' => ∃ (o : List UInt8) (m' : MuxS), o.length ≤ most ∧ n = most - o.length ∧ fget fr 5 = .string (str o) ∧ fget fr 0 = ptrC p ∧ fget fr 1 = .int .i64 most ∧ MuxAt h' p sb ids m' ∧ MB m' ∧ Upd h h' (foot p sb ids) (foot p sb ids) ∧
      outB most m = (o ++ (outB (most - o.length) m').1, (outB (most - o.length) m').2)) ?_ most _ _ ⟨[], m, by simp, by simp, ?_⟩
  · rintro n fr h' ⟨o, m', ho, hn, f5, f0, f1, am, mb, hu, hout⟩
    obtain ⟨b1, b2, b3, b4⟩ := mb
    have htop := am.top
    by_cases hlt : o.length < most
    · have hlt' : (o.length : Int) < most := by omega
      -- one round behind the condition, from an end that is ready
      have fin : ∀ (m1 : MuxS), m1.ready ≠ [] → MB m1 → outB (most - o.length) m' = outB (most - o.length) m1 → ∀ (n1 : Nat), n1 = min (most - o.length) m1.ready.length →
          (o ++ m1.ready.take n1).length ≤ most ∧ most - (o ++ m1.ready.take n1).length < n ∧ MB { m1 with ready := m1.ready.drop n1 } ∧ outB most m = ((o ++ m1.ready.take n1) ++ (outB (most - (o ++ m1.ready.take n1).length) { m1 with ready := m1.ready.drop n1 }).1, (outB (most - (o ++ m1.ready.take n1).length) { m1 with ready := m1.ready.drop n1 }).2) := by
        intro m1 hr1 ⟨c1, c2, c3, c4⟩ he n1 hn1
        have hpos : 0 < m1.ready.length := List.length_pos_iff.2 hr1
        have hlen : (o ++ m1.ready.take n1).length = o.length + n1 := by rw [List.length_append, List.length_take]; omega
        refine ⟨by omega, by omega, ⟨c1, c2, by simp only [List.length_drop]; omega, c4⟩, ?_⟩
        rw [hout, he, hlen, show most - o.length = n1 + (most - (o.length + n1)) by omega, outB_take n1 _ m1 (by omega)]
        simp only [List.append_assoc]
      by_cases hr : m'.ready = []
      · simp -dsimp -implicitDefEqProofs (disch := first | omega | (simp only [stT, u_2, ag_2, sz_2, by_2, ze_2, es_2, u_3, ag_3, sz_3, by_3, ze_3, es_3, u_4, ag_4, sz_4, by_4, ze_4, bo_4, es_4, u_5, ag_5, sz_5, by_5, ze_5, u8_5, es_5, u_6, ag_6, sz_6, by_6, ze_6, u8_6, es_6, u_8, f_8_0, f_8_1, f_8_2, f_8_3, ag_8, sz_8, by_8, ze_8, pl_8, es_8, u_9, ag_9, sz_9, by_9, ze_9, es_9, u_26, ag_26, sz_26, by_26, ze_26, es_26, u_53, ag_53, sz_53, by_53, ze_53, es_53, u_55, f_55_0, f_55_1, f_55_2, f_55_3, f_55_4, f_55_5, f_55_6, f_55_7, f_55_8, ag_55, sz_55, by_55, ze_55, pl_55, es_55, u_57, ag_57, sz_57, by_57, ze_57, es_57]; done) | (simp only [List.append_assoc, List.cons_append, List.nil_append, pre_n, pre_c, pre_a, pre_g, pre_r]; done) | (simp only [List.length_set]; done) | (simp only [List.length_set]; omega) | assumption | decide +kernel | fail) only [↓RP, RQ, isConstA, Nat.reduceEqDiff, Nat.reduceLT, Nat.reduceAdd, Int.reduceNeg, Int.reduceLT, Int.reduceLE, Int.reduceToNat, Int.reduceEq, ↓reduceIte, ite_true, ite_false, Option.toList, Nat.reduceMul, Nat.reduceSub, Nat.reduceLeDiff, ne_eq, eq_self, u_2, ag_2, sz_2, by_2, ze_2, es_2, u_3, ag_3, sz_3, by_3, ze_3, es_3, u_4, ag_4, sz_4, by_4, ze_4, bo_4, es_4, u_5, ag_5, sz_5, by_5, ze_5, u8_5, es_5, u_6, ag_6, sz_6, by_6, ze_6, u8_6, es_6, u_8, f_8_0, f_8_1, f_8_2, f_8_3, ag_8, sz_8, by_8, ze_8, pl_8, es_8, u_9, ag_9, sz_9, by_9, ze_9, es_9, u_26, ag_26, sz_26, by_26, ze_26, es_26, u_53, ag_53, sz_53, by_53, ze_53, es_53, u_55, f_55_0, f_55_1, f_55_2, f_55_3, f_55_4, f_55_5, f_55_6, f_55_7, f_55_8, ag_55, sz_55, by_55, ze_55, pl_55, es_55, u_57, ag_57, sz_57, by_57, ze_57, es_57, ↓AW_loop, f5, f0, f1, htop, muxC, hlt', hr, b1, ptrC]
        refine FW.mono (fill_q m' am hl b4) (fun v h1 hq => ?_)
        obtain ⟨rfl, a2, u2⟩ := hq
        cases hf : fillS m' with
        | none =>
          rw [hf] at a2
          simp -dsimp -implicitDefEqProofs (disch := first | omega | (simp only [stT, u_2, ag_2, sz_2, by_2, ze_2, es_2, u_3, ag_3, sz_3, by_3, ze_3, es_3, u_4, ag_4, sz_4, by_4, ze_4, bo_4, es_4, u_5, ag_5, sz_5, by_5, ze_5, u8_5, es_5, u_6, ag_6, sz_6, by_6, ze_6, u8_6, es_6, u_8, f_8_0, f_8_1, f_8_2, f_8_3, ag_8, sz_8, by_8, ze_8, pl_8, es_8, u_9, ag_9, sz_9, by_9, ze_9, es_9, u_26, ag_26, sz_26, by_26, ze_26, es_26, u_53, ag_53, sz_53, by_53, ze_53, es_53, u_55, f_55_0, f_55_1, f_55_2, f_55_3, f_55_4, f_55_5, f_55_6, f_55_7, f_55_8, ag_55, sz_55, by_55, ze_55, pl_55, es_55, u_57, ag_57, sz_57, by_57, ze_57, es_57]; done) | (simp only [List.append_assoc, List.cons_append, List.nil_append, pre_n, pre_c, pre_a, pre_g, pre_r]; done) | (simp only [List.length_set]; done) | (simp only [List.length_set]; omega) | assumption | decide +kernel | fail) only [↓RP, RQ, isConstA, Nat.reduceEqDiff, Nat.reduceLT, Nat.reduceAdd, Int.reduceNeg, Int.reduceLT, Int.reduceLE, Int.reduceToNat, Int.reduceEq, ↓reduceIte, ite_true, ite_false, Option.toList, Nat.reduceMul, Nat.reduceSub, Nat.reduceLeDiff, ne_eq, eq_self, u_2, ag_2, sz_2, by_2, ze_2, es_2, u_3, ag_3, sz_3, by_3, ze_3, es_3, u_4, ag_4, sz_4, by_4, ze_4, bo_4, es_4, u_5, ag_5, sz_5, by_5, ze_5, u8_5, es_5, u_6, ag_6, sz_6, by_6, ze_6, u8_6, es_6, u_8, f_8_0, f_8_1, f_8_2, f_8_3, ag_8, sz_8, by_8, ze_8, pl_8, es_8, u_9, ag_9, sz_9, by_9, ze_9, es_9, u_26, ag_26, sz_26, by_26, ze_26, es_26, u_53, ag_53, sz_53, by_53, ze_53, es_53, u_55, f_55_0, f_55_1, f_55_2, f_55_3, f_55_4, f_55_5, f_55_6, f_55_7, f_55_8, ag_55, sz_55, by_55, ze_55, pl_55, es_55, u_57, ag_57, sz_57, by_57, ze_57, es_57, ↓AW_loop, f5, f0, f1, ptrC, Option.isSome_none]
          rw [hout, outB_none _ hr hf]
          simp only [List.append_nil]
          exact ⟨trivial, a2, hu.trans u2⟩
        | some m1 =>
          rw [hf] at a2
          have htop1 := a2.top
          have hmin : foldA min2A (Value.int .i64 ((most : Int) - o.length)) [.int .i64 (m1.ready.length : Int)] = some (.int .i64 ((min (most - o.length) m1.ready.length : Nat) : Int)) := by
            simp only [foldA, min2A]; congr 2; split <;> omega
          obtain ⟨e1, e2, e3, e4⟩ := fin m1 (fillS_ready hf) (fillS_MB hf ⟨b1, b2, b3, b4⟩) (by rw [show most - o.length = (most - o.length - 1) + 1 by omega]; exact outB_fill hr hf) _ rfl
          generalize hn1 : min (most - o.length) m1.ready.length = n1 at hmin e1 e2 e3 e4
          have hle1 : n1 ≤ m1.ready.length := by omega
          have htk : (m1.ready.take n1).length = n1 := by rw [List.length_take]; omega
          have hset : ∀ X, blkA (h1.set p (some (.cells X))) p = some X := fun X => blk_setB0 a2.lt
          simp -dsimp -implicitDefEqProofs (disch := first | omega | (simp only [stT, u_2, ag_2, sz_2, by_2, ze_2, es_2, u_3, ag_3, sz_3, by_3, ze_3, es_3, u_4, ag_4, sz_4, by_4, ze_4, bo_4, es_4, u_5, ag_5, sz_5, by_5, ze_5, u8_5, es_5, u_6, ag_6, sz_6, by_6, ze_6, u8_6, es_6, u_8, f_8_0, f_8_1, f_8_2, f_8_3, ag_8, sz_8, by_8, ze_8, pl_8, es_8, u_9, ag_9, sz_9, by_9, ze_9, es_9, u_26, ag_26, sz_26, by_26, ze_26, es_26, u_53, ag_53, sz_53, by_53, ze_53, es_53, u_55, f_55_0, f_55_1, f_55_2, f_55_3, f_55_4, f_55_5, f_55_6, f_55_7, f_55_8, ag_55, sz_55, by_55, ze_55, pl_55, es_55, u_57, ag_57, sz_57, by_57, ze_57, es_57]; done) | (simp only [List.append_assoc, List.cons_append, List.nil_append, pre_n, pre_c, pre_a, pre_g, pre_r]; done) | (simp only [List.length_set]; done) | (simp only [List.length_set]; omega) | assumption | decide +kernel | fail) only [↓RP, RQ, isConstA, Nat.reduceEqDiff, Nat.reduceLT, Nat.reduceAdd, Int.reduceNeg, Int.reduceLT, Int.reduceLE, Int.reduceToNat, Int.reduceEq, ↓reduceIte, ite_true, ite_false, Option.toList, Nat.reduceMul, Nat.reduceSub, Nat.reduceLeDiff, ne_eq, eq_self, u_2, ag_2, sz_2, by_2, ze_2, es_2, u_3, ag_3, sz_3, by_3, ze_3, es_3, u_4, ag_4, sz_4, by_4, ze_4, bo_4, es_4, u_5, ag_5, sz_5, by_5, ze_5, u8_5, es_5, u_6, ag_6, sz_6, by_6, ze_6, u8_6, es_6, u_8, f_8_0, f_8_1, f_8_2, f_8_3, ag_8, sz_8, by_8, ze_8, pl_8, es_8, u_9, ag_9, sz_9, by_9, ze_9, es_9, u_26, ag_26, sz_26, by_26, ze_26, es_26, u_53, ag_53, sz_53, by_53, ze_53, es_53, u_55, f_55_0, f_55_1, f_55_2, f_55_3, f_55_4, f_55_5, f_55_6, f_55_7, f_55_8, ag_55, sz_55, by_55, ze_55, pl_55, es_55, u_57, ag_57, sz_57, by_57, ze_57, es_57, ↓AW_loop, f5, f0, f1, htop1, muxC, hmin, hset, htk, ptrC, Option.getD_some]
          (repeat (refine And.intro (by omega) ?_))
          exact ⟨_, e2, o ++ m1.ready.take n1, { m1 with ready := m1.ready.drop n1 }, e1, rfl, rfl, a2.setTop (m' := { m1 with ready := m1.ready.drop n1 }) rfl, e3, (hu.trans u2).set (by simp [foot]), e4⟩
      · have hmin : foldA min2A (Value.int .i64 ((most : Int) - o.length)) [.int .i64 (m'.ready.length : Int)] = some (.int .i64 ((min (most - o.length) m'.ready.length : Nat) : Int)) := by
          simp only [foldA, min2A]; congr 2; split <;> omega
        obtain ⟨e1, e2, e3, e4⟩ := fin m' hr ⟨b1, b2, b3, b4⟩ rfl _ rfl
        generalize hn1 : min (most - o.length) m'.ready.length = n1 at hmin e1 e2 e3 e4
        have hle1 : n1 ≤ m'.ready.length := by omega
        have htk : (m'.ready.take n1).length = n1 := by rw [List.length_take]; omega
        simp -dsimp -implicitDefEqProofs (disch := first | omega | (simp only [stT, u_2, ag_2, sz_2, by_2, ze_2, es_2, u_3, ag_3, sz_3, by_3, ze_3, es_3, u_4, ag_4, sz_4, by_4, ze_4, bo_4, es_4, u_5, ag_5, sz_5, by_5, ze_5, u8_5, es_5, u_6, ag_6, sz_6, by_6, ze_6, u8_6, es_6, u_8, f_8_0, f_8_1, f_8_2, f_8_3, ag_8, sz_8, by_8, ze_8, pl_8, es_8, u_9, ag_9, sz_9, by_9, ze_9, es_9, u_26, ag_26, sz_26, by_26, ze_26, es_26, u_53, ag_53, sz_53, by_53, ze_53, es_53, u_55, f_55_0, f_55_1, f_55_2, f_55_3, f_55_4, f_55_5, f_55_6, f_55_7, f_55_8, ag_55, sz_55, by_55, ze_55, pl_55, es_55, u_57, ag_57, sz_57, by_57, ze_57, es_57]; done) | (simp only [List.append_assoc, List.cons_append, List.nil_append, pre_n, pre_c, pre_a, pre_g, pre_r]; done) | (simp only [List.length_set]; done) | (simp only [List.length_set]; omega) | assumption | decide +kernel | fail) only [↓RP, RQ, isConstA, Nat.reduceEqDiff, Nat.reduceLT, Nat.reduceAdd, Int.reduceNeg, Int.reduceLT, Int.reduceLE, Int.reduceToNat, Int.reduceEq, ↓reduceIte, ite_true, ite_false, Option.toList, Nat.reduceMul, Nat.reduceSub, Nat.reduceLeDiff, ne_eq, eq_self, u_2, ag_2, sz_2, by_2, ze_2, es_2, u_3, ag_3, sz_3, by_3, ze_3, es_3, u_4, ag_4, sz_4, by_4, ze_4, bo_4, es_4, u_5, ag_5, sz_5, by_5, ze_5, u8_5, es_5, u_6, ag_6, sz_6, by_6, ze_6, u8_6, es_6, u_8, f_8_0, f_8_1, f_8_2, f_8_3, ag_8, sz_8, by_8, ze_8, pl_8, es_8, u_9, ag_9, sz_9, by_9, ze_9, es_9, u_26, ag_26, sz_26, by_26, ze_26, es_26, u_53, ag_53, sz_53, by_53, ze_53, es_53, u_55, f_55_0, f_55_1, f_55_2, f_55_3, f_55_4, f_55_5, f_55_6, f_55_7, f_55_8, ag_55, sz_55, by_55, ze_55, pl_55, es_55, u_57, ag_57, sz_57, by_57, ze_57, es_57, ↓AW_loop, f5, f0, f1, htop, muxC, hlt', hr, b1, ptrC, hmin, htk, GW_u]
        (repeat (refine And.intro (by omega) ?_))
        have a3 := am.setTop (m' := { m' with ready := m'.ready.drop n1 }) rfl
        simp only [muxC, b1] at a3
        simp only [b1] at e3 e4
        exact ⟨_, e2, o ++ m'.ready.take n1, { m' with ready := m'.ready.drop n1, broken := false }, e1, rfl, rfl, a3, e3, hu.set (by simp [foot]), e4⟩
    · have hlt' : ¬ (o.length : Int) < most := by omega
      simp -dsimp -implicitDefEqProofs (disch := first | omega | (simp only [stT, u_2, ag_2, sz_2, by_2, ze_2, es_2, u_3, ag_3, sz_3, by_3, ze_3, es_3, u_4, ag_4, sz_4, by_4, ze_4, bo_4, es_4, u_5, ag_5, sz_5, by_5, ze_5, u8_5, es_5, u_6, ag_6, sz_6, by_6, ze_6, u8_6, es_6, u_8, f_8_0, f_8_1, f_8_2, f_8_3, ag_8, sz_8, by_8, ze_8, pl_8, es_8, u_9, ag_9, sz_9, by_9, ze_9, es_9, u_26, ag_26, sz_26, by_26, ze_26, es_26, u_53, ag_53, sz_53, by_53, ze_53, es_53, u_55, f_55_0, f_55_1, f_55_2, f_55_3, f_55_4, f_55_5, f_55_6, f_55_7, f_55_8, ag_55, sz_55, by_55, ze_55, pl_55, es_55, u_57, ag_57, sz_57, by_57, ze_57, es_57]; done) | (simp only [List.append_assoc, List.cons_append, List.nil_append, pre_n, pre_c, pre_a, pre_g, pre_r]; done) | (simp only [List.length_set]; done) | (simp only [List.length_set]; omega) | assumption | decide +kernel | fail) only [↓RP, RQ, isConstA, Nat.reduceEqDiff, Nat.reduceLT, Nat.reduceAdd, Int.reduceNeg, Int.reduceLT, Int.reduceLE, Int.reduceToNat, Int.reduceEq, ↓reduceIte, ite_true, ite_false, Option.toList, Nat.reduceMul, Nat.reduceSub, Nat.reduceLeDiff, ne_eq, eq_self, u_2, ag_2, sz_2, by_2, ze_2, es_2, u_3, ag_3, sz_3, by_3, ze_3, es_3, u_4, ag_4, sz_4, by_4, ze_4, bo_4, es_4, u_5, ag_5, sz_5, by_5, ze_5, u8_5, es_5, u_6, ag_6, sz_6, by_6, ze_6, u8_6, es_6, u_8, f_8_0, f_8_1, f_8_2, f_8_3, ag_8, sz_8, by_8, ze_8, pl_8, es_8, u_9, ag_9, sz_9, by_9, ze_9, es_9, u_26, ag_26, sz_26, by_26, ze_26, es_26, u_53, ag_53, sz_53, by_53, ze_53, es_53, u_55, f_55_0, f_55_1, f_55_2, f_55_3, f_55_4, f_55_5, f_55_6, f_55_7, f_55_8, ag_55, sz_55, by_55, ze_55, pl_55, es_55, u_57, ag_57, sz_57, by_57, ze_57, es_57, ↓AW_loop, f5, f0, f1, htop, muxC, hlt', b1, ptrC, GW_u]
      rw [hout, show most - o.length = 0 by omega, outB]
      simp only [List.append_nil]
      exact ⟨trivial, am, hu⟩
  · simp -dsimp -implicitDefEqProofs (disch := first | omega | (simp only [stT, u_2, ag_2, sz_2, by_2, ze_2, es_2, u_3, ag_3, sz_3, by_3, ze_3, es_3, u_4, ag_4, sz_4, by_4, ze_4, bo_4, es_4, u_5, ag_5, sz_5, by_5, ze_5, u8_5, es_5, u_6, ag_6, sz_6, by_6, ze_6, u8_6, es_6, u_8, f_8_0, f_8_1, f_8_2, f_8_3, ag_8, sz_8, by_8, ze_8, pl_8, es_8, u_9, ag_9, sz_9, by_9, ze_9, es_9, u_26, ag_26, sz_26, by_26, ze_26, es_26, u_53, ag_53, sz_53, by_53, ze_53, es_53, u_55, f_55_0, f_55_1, f_55_2, f_55_3, f_55_4, f_55_5, f_55_6, f_55_7, f_55_8, ag_55, sz_55, by_55, ze_55, pl_55, es_55, u_57, ag_57, sz_57, by_57, ze_57, es_57]; done) | (simp only [List.append_assoc, List.cons_append, List.nil_append, pre_n, pre_c, pre_a, pre_g, pre_r]; done) | (simp only [List.length_set]; done) | (simp only [List.length_set]; omega) | assumption | decide +kernel | fail) only [↓RP, RQ, isConstA, Nat.reduceEqDiff, Nat.reduceLT, Nat.reduceAdd, Int.reduceNeg, Int.reduceLT, Int.reduceLE, Int.reduceToNat, Int.reduceEq, ↓reduceIte, ite_true, ite_false, Option.toList, Nat.reduceMul, Nat.reduceSub, Nat.reduceLeDiff, ne_eq, eq_self, u_2, ag_2, sz_2, by_2, ze_2, es_2, u_3, ag_3, sz_3, by_3, ze_3, es_3, u_4, ag_4, sz_4, by_4, ze_4, bo_4, es_4, u_5, ag_5, sz_5, by_5, ze_5, u8_5, es_5, u_6, ag_6, sz_6, by_6, ze_6, u8_6, es_6, u_8, f_8_0, f_8_1, f_8_2, f_8_3, ag_8, sz_8, by_8, ze_8, pl_8, es_8, u_9, ag_9, sz_9, by_9, ze_9, es_9, u_26, ag_26, sz_26, by_26, ze_26, es_26, u_53, ag_53, sz_53, by_53, ze_53, es_53, u_55, f_55_0, f_55_1, f_55_2, f_55_3, f_55_4, f_55_5, f_55_6, f_55_7, f_55_8, ag_55, sz_55, by_55, ze_55, pl_55, es_55, u_57, ag_57, sz_57, by_57, ze_57, es_57, ↓AW_loop]
    exact ⟨rfl, a, hb, Upd.refl _ _⟩
end Go.Abs
/- Mx6: the walks of Within, At and muxFact. Conditions: none. -/
set_option maxRecDepth 100000
set_option linter.unusedSimpArgs false
set_option linter.unusedVariables false
namespace Go.Abs
open Go.Proofs
theorem within_q (n low high : Int) (h : AHeap) : Quiet cx 9 [.int .i64 n, .int .i64 low, .int .i64 high] h (.int .i64 (max low (min n high))) := by
  refine FW_f Try.func9 rfl (by decide +kernel) ?_
  have h1 : foldA min2A (Value.int .i64 n) [.int .i64 high] = some (.int .i64 (min n high)) := by
    simp only [foldA, min2A]; congr 2; split <;> omega
  have h2 : foldA max2A (Value.int .i64 low) [.int .i64 (min n high)] = some (.int .i64 (max low (min n high))) := by
    simp only [foldA, max2A]; congr 2; split <;> omega
  simp -dsimp -implicitDefEqProofs (disch := first | omega | (simp only [stT, u_3, ag_3, sz_3, by_3, ze_3, es_3]; done) | (simp only [List.append_assoc, List.cons_append, List.nil_append, pre_n, pre_c, pre_a, pre_g, pre_r]; done) | (simp only [List.length_set]; done) | (simp only [List.length_set]; omega) | assumption | decide +kernel | fail) only [↓RP, RQ, isConstA, Nat.reduceEqDiff, Nat.reduceLT, Nat.reduceAdd, Int.reduceNeg, Int.reduceLT, Int.reduceLE, Int.reduceToNat, Int.reduceEq, ↓reduceIte, ite_true, ite_false, Option.toList, Nat.reduceMul, Nat.reduceSub, Nat.reduceLeDiff, ne_eq, eq_self, u_3, ag_3, sz_3, by_3, ze_3, es_3, ↓AW_loop, h1, h2]
  exact Ext.refl _
def intE (z : Int) : List Value := [.int .i64 z]
def strE (z : List UInt8) : List Value := [.string (str z)]
def atS (l : List Int) (k : Nat) (other : Int) : Int := if l = [] then other else l.getD (k % l.length) 0
theorem at_q (l : List Int) (k : Nat) (other : Int) (hk : k < 2 ^ 40) {h : AHeap} {a : Option Addr} {m : Nat} {ro : Bool} (hs : SlA intE 1 ro h a l) (hl : l.length < 2 ^ 50) : Quiet cx 15 [.slice a l.length m, .int .i64 k, .int .i64 other] h (.int .i64 (atS l k other)) := by
  refine FW_f Try.func15 rfl (by decide +kernel) ?_
  unfold atS
  by_cases hn : l = []
  · subst hn
    simp -dsimp -implicitDefEqProofs (disch := first | omega | (simp only [stT, u_3, ag_3, sz_3, by_3, ze_3, es_3, u_23, ag_23, sz_23, by_23, ze_23, es_23]; done) | (simp only [List.append_assoc, List.cons_append, List.nil_append, pre_n, pre_c, pre_a, pre_g, pre_r]; done) | (simp only [List.length_set]; done) | (simp only [List.length_set]; omega) | assumption | decide +kernel | fail) only [↓RP, RQ, isConstA, Nat.reduceEqDiff, Nat.reduceLT, Nat.reduceAdd, Int.reduceNeg, Int.reduceLT, Int.reduceLE, Int.reduceToNat, Int.reduceEq, ↓reduceIte, ite_true, ite_false, Option.toList, Nat.reduceMul, Nat.reduceSub, Nat.reduceLeDiff, ne_eq, eq_self, u_3, ag_3, sz_3, by_3, ze_3, es_3, u_23, ag_23, sz_23, by_23, ze_23, es_23, ↓AW_loop]
    exact Ext.refl _
  · rw [if_neg hn]
    have hpos : 0 < l.length := List.length_pos_iff.2 hn
    have h0 : ¬ (l.length : Int) = 0 := by omega
    have hj : k % l.length < l.length := Nat.mod_lt _ hpos
    have hjI : ((k % l.length : Nat) : Int) < l.length := by omega
    have hmod : (k : Int).tmod (l.length : Int) = ((k % l.length : Nat) : Int) := (Int.ofNat_tmod _ _).symm
    obtain ⟨x, hx⟩ : ∃ x, l[k % l.length]? = some x := ⟨_, List.getElem?_eq_getElem hj⟩
    obtain ⟨b, o, cells, rfl, hb, hbX, hle, hch⟩ := hs.get1 (g := fun z => .int .i64 z) (fun _ => rfl) hx
    rw [List.getD_eq_getElem?_getD, hx, Option.getD_some]
    simp -dsimp -implicitDefEqProofs (disch := first | omega | (simp only [stT, u_3, ag_3, sz_3, by_3, ze_3, es_3, u_23, ag_23, sz_23, by_23, ze_23, es_23]; done) | (simp only [List.append_assoc, List.cons_append, List.nil_append, pre_n, pre_c, pre_a, pre_g, pre_r]; done) | (simp only [List.length_set]; done) | (simp only [List.length_set]; omega) | assumption | decide +kernel | fail) only [↓RP, RQ, isConstA, Nat.reduceEqDiff, Nat.reduceLT, Nat.reduceAdd, Int.reduceNeg, Int.reduceLT, Int.reduceLE, Int.reduceToNat, Int.reduceEq, ↓reduceIte, ite_true, ite_false, Option.toList, Nat.reduceMul, Nat.reduceSub, Nat.reduceLeDiff, ne_eq, eq_self, u_3, ag_3, sz_3, by_3, ze_3, es_3, u_23, ag_23, sz_23, by_23, ze_23, es_23, ↓AW_loop, hb, hbX, hle, hch, h0, hmod, hjI]
    exact Ext.refl _
/-- What was there before still stands. -/
theorem Upd.toExt {h h' : AHeap} {F : List Nat} (u : Upd h h' [] F) : Ext h h' := by
  refine ⟨h'.drop h.length, ?_⟩
  have : h'.take h.length = h := by
    apply List.ext_getElem?
    intro i
    by_cases hi : i < h.length
    · rw [List.getElem?_take_of_lt hi, u.same i hi (by simp)]
    · rw [List.getElem?_eq_none (by rw [List.length_take]; omega), List.getElem?_eq_none (by omega)]
  conv => lhs; rw [← List.take_append_drop h.length h', this]
theorem fact_q (h : AHeap) : FW cx 16 [] h fun v h' => v = .bool true ∧ Upd h h' [] [] := by
  refine FW_f Try.func16 rfl (by decide +kernel) ?_
  simp -dsimp -implicitDefEqProofs (disch := first | omega | (simp only [stT, u_3, ag_3, sz_3, by_3, ze_3, es_3, u_4, ag_4, sz_4, by_4, ze_4, bo_4, es_4, u_9, ag_9, sz_9, by_9, ze_9, es_9, u_26, ag_26, sz_26, by_26, ze_26, es_26, u_27, ag_27, sz_27, by_27, ze_27, es_27]; done) | (simp only [List.append_assoc, List.cons_append, List.nil_append, pre_n, pre_c, pre_a, pre_g, pre_r]; done) | (simp only [List.length_set]; done) | (simp only [List.length_set]; omega) | assumption | decide +kernel | fail) only [↓RP, RQ, isConstA, Nat.reduceEqDiff, Nat.reduceLT, Nat.reduceAdd, Int.reduceNeg, Int.reduceLT, Int.reduceLE, Int.reduceToNat, Int.reduceEq, ↓reduceIte, ite_true, ite_false, Option.toList, Nat.reduceMul, Nat.reduceSub, Nat.reduceLeDiff, ne_eq, eq_self, u_3, ag_3, sz_3, by_3, ze_3, es_3, u_4, ag_4, sz_4, by_4, ze_4, bo_4, es_4, u_9, ag_9, sz_9, by_9, ze_9, es_9, u_26, ag_26, sz_26, by_26, ze_26, es_26, u_27, ag_27, sz_27, by_27, ze_27, es_27, ↓AW_loop]
  refine FW.mono (new_q true 8 (by decide) (by decide) h) (fun v h1 hq => ?_)
  obtain ⟨rfl, a1, e1⟩ := hq
  have u1 : Upd h h1 [] (foot h.length none []) := by rw [e1]; exact (Upd.app h _ []).to (by simp [foot])
  generalize hp : h.length = p at a1 u1
  simp -dsimp -implicitDefEqProofs (disch := first | omega | (simp only [stT, u_3, ag_3, sz_3, by_3, ze_3, es_3, u_4, ag_4, sz_4, by_4, ze_4, bo_4, es_4, u_9, ag_9, sz_9, by_9, ze_9, es_9, u_26, ag_26, sz_26, by_26, ze_26, es_26, u_27, ag_27, sz_27, by_27, ze_27, es_27]; done) | (simp only [List.append_assoc, List.cons_append, List.nil_append, pre_n, pre_c, pre_a, pre_g, pre_r]; done) | (simp only [List.length_set]; done) | (simp only [List.length_set]; omega) | assumption | decide +kernel | fail) only [↓RP, RQ, isConstA, Nat.reduceEqDiff, Nat.reduceLT, Nat.reduceAdd, Int.reduceNeg, Int.reduceLT, Int.reduceLE, Int.reduceToNat, Int.reduceEq, ↓reduceIte, ite_true, ite_false, Option.toList, Nat.reduceMul, Nat.reduceSub, Nat.reduceLeDiff, ne_eq, eq_self, u_3, ag_3, sz_3, by_3, ze_3, es_3, u_4, ag_4, sz_4, by_4, ze_4, bo_4, es_4, u_9, ag_9, sz_9, by_9, ze_9, es_9, u_26, ag_26, sz_26, by_26, ze_26, es_26, u_27, ag_27, sz_27, by_27, ze_27, es_27, ↓AW_loop, ptrC]
  refine FW.mono (open_q (newM true 8) [104] a1 rfl (by decide) (by decide) (by decide) (by decide) (by decide) (by simp [newM])) (fun v h2 hq => ?_)
  obtain ⟨rfl, sb2, ids2, a2, u2⟩ := hq
  simp -dsimp -implicitDefEqProofs (disch := first | omega | (simp only [stT, u_3, ag_3, sz_3, by_3, ze_3, es_3, u_4, ag_4, sz_4, by_4, ze_4, bo_4, es_4, u_9, ag_9, sz_9, by_9, ze_9, es_9, u_26, ag_26, sz_26, by_26, ze_26, es_26, u_27, ag_27, sz_27, by_27, ze_27, es_27]; done) | (simp only [List.append_assoc, List.cons_append, List.nil_append, pre_n, pre_c, pre_a, pre_g, pre_r]; done) | (simp only [List.length_set]; done) | (simp only [List.length_set]; omega) | assumption | decide +kernel | fail) only [↓RP, RQ, isConstA, Nat.reduceEqDiff, Nat.reduceLT, Nat.reduceAdd, Int.reduceNeg, Int.reduceLT, Int.reduceLE, Int.reduceToNat, Int.reduceEq, ↓reduceIte, ite_true, ite_false, Option.toList, Nat.reduceMul, Nat.reduceSub, Nat.reduceLeDiff, ne_eq, eq_self, u_3, ag_3, sz_3, by_3, ze_3, es_3, u_4, ag_4, sz_4, by_4, ze_4, bo_4, es_4, u_9, ag_9, sz_9, by_9, ze_9, es_9, u_26, ag_26, sz_26, by_26, ze_26, es_26, u_27, ag_27, sz_27, by_27, ze_27, es_27, ↓AW_loop, newM, ite_true]
  have hi2 : ids2.length = 1 := a2.len
  refine FW.mono (write_q (openS (newM true 8) [104]) 1 0 (newStrm (newM true 8) 1 [104]) [97, 98] a2 (by omega) rfl rfl rfl rfl rfl (by decide) (by decide)) (fun v h3 hq => ?_)
  obtain ⟨rfl, a3, u3⟩ := hq
  simp -dsimp -implicitDefEqProofs (disch := first | omega | (simp only [stT, u_3, ag_3, sz_3, by_3, ze_3, es_3, u_4, ag_4, sz_4, by_4, ze_4, bo_4, es_4, u_9, ag_9, sz_9, by_9, ze_9, es_9, u_26, ag_26, sz_26, by_26, ze_26, es_26, u_27, ag_27, sz_27, by_27, ze_27, es_27]; done) | (simp only [List.append_assoc, List.cons_append, List.nil_append, pre_n, pre_c, pre_a, pre_g, pre_r]; done) | (simp only [List.length_set]; done) | (simp only [List.length_set]; omega) | assumption | decide +kernel | fail) only [↓RP, RQ, isConstA, Nat.reduceEqDiff, Nat.reduceLT, Nat.reduceAdd, Int.reduceNeg, Int.reduceLT, Int.reduceLE, Int.reduceToNat, Int.reduceEq, ↓reduceIte, ite_true, ite_false, Option.toList, Nat.reduceMul, Nat.reduceSub, Nat.reduceLeDiff, ne_eq, eq_self, u_3, ag_3, sz_3, by_3, ze_3, es_3, u_4, ag_4, sz_4, by_4, ze_4, bo_4, es_4, u_9, ag_9, sz_9, by_9, ze_9, es_9, u_26, ag_26, sz_26, by_26, ze_26, es_26, u_27, ag_27, sz_27, by_27, ze_27, es_27, ↓AW_loop]
  rw [if_pos (by decide), if_pos (by decide)]
  refine FW.mono (out_q _ 100 (by decide) a3 (by omega) ⟨rfl, by decide, by decide, ?_⟩) (fun v h4 hq => ?_)
  · intro s hs
    have : s = { newStrm (newM true 8) 1 [104] with out := [97, 98] } := by simpa [writeM, openS, newM, newStrm] using hs
    subst this
    decide
  · obtain ⟨rfl, a4, u4⟩ := hq
    have e : (outB 100 (writeM (openS (newM true 8) [104]) 0 (newStrm (newM true 8) 1 [104]) [97, 98])).1 = [2, 0, 1, 0, 1, 104, 1, 0, 1, 0, 2, 97, 98] := by decide +kernel
    rw [e]
    simp -dsimp -implicitDefEqProofs (disch := first | omega | (simp only [stT, u_3, ag_3, sz_3, by_3, ze_3, es_3, u_4, ag_4, sz_4, by_4, ze_4, bo_4, es_4, u_9, ag_9, sz_9, by_9, ze_9, es_9, u_26, ag_26, sz_26, by_26, ze_26, es_26, u_27, ag_27, sz_27, by_27, ze_27, es_27]; done) | (simp only [List.append_assoc, List.cons_append, List.nil_append, pre_n, pre_c, pre_a, pre_g, pre_r]; done) | (simp only [List.length_set]; done) | (simp only [List.length_set]; omega) | assumption | decide +kernel | fail) only [↓RP, RQ, isConstA, Nat.reduceEqDiff, Nat.reduceLT, Nat.reduceAdd, Int.reduceNeg, Int.reduceLT, Int.reduceLE, Int.reduceToNat, Int.reduceEq, ↓reduceIte, ite_true, ite_false, Option.toList, Nat.reduceMul, Nat.reduceSub, Nat.reduceLeDiff, ne_eq, eq_self, u_3, ag_3, sz_3, by_3, ze_3, es_3, u_4, ag_4, sz_4, by_4, ze_4, bo_4, es_4, u_9, ag_9, sz_9, by_9, ze_9, es_9, u_26, ag_26, sz_26, by_26, ze_26, es_26, u_27, ag_27, sz_27, by_27, ze_27, es_27, ↓AW_loop]
    rw [if_pos (by decide), if_pos (by decide)]
    exact (((u1.trans u2).trans u3).trans u4).to (by simp)
end Go.Abs
/-
  DERIVED: THE SHELF's CONTRACTS AT THIS DUMP, IN PLAIN WORDS (tools/lay-plain.mjs out of 'TryShelf.lean', which tools/lay-shelf.mjs wrote): THE SAME DECLARATIONS UNDER THE SAME NAMES: 'import', 'namespace', 'open', 'def', 'theorem' AND NOTHING ELSE: no command of the shelf's: FOR A HAND-IN. Each laying: the table of numbers ('.._ren') and one theorem, a field a fact of the dump's own or the kernel's comparison; each contract: ONE APPLICATION.
-/
namespace Go.Proofs
open Go.Shelf
def Try.lays170_ren : Go.Shelf.Ren := ⟨fun | 170 => 38 | n => n, fun | 70 => 71 | 3 => 3 | 0 => 0 | 72 => 73 | 37 => 40 | 5 => 5 | n => n, fun | n => n⟩
theorem Try.lays170 : Go.Proofs.Lays.n170 Try.prog Try.lays170_ren := {
  mixed := by kernel_rfl
  f170 := Try.func38.trans (congrArg some (by kernel_rfl))
  t0 := Try.underlying0
  a0 := Try.isAgg0
  z0 := Try.sizeOf0
  v0 := Try.zeroValue0
  t3 := Try.underlying3
  a3 := Try.isAgg3
  z3 := Try.sizeOf3
  v3 := Try.zeroValue3
  t37 := Try.underlying40
  a37 := Try.isAgg40
  z37 := Try.sizeOf40
  v37 := Try.zeroValue40
  t70 := Try.underlying71
  a70 := Try.isAgg71
  z70 := Try.sizeOf71
  v70 := Try.zeroValue71
  t72 := Try.underlying73
  a72 := Try.isAgg73
  z72 := Try.sizeOf73
  v72 := Try.zeroValue73 }
open Go.RowKit in
/-- (*strings.Builder).Len: "Len returns the number of accumulated bytes; b.Len() == len(b.String()).": the world is as it was. (LAID: no walk: one application.) -/
theorem Try.Builder_Len (B b : Nat) (bs : List Value) (w : World) (h : Lib.IsBuilder 73 5 B b bs w) :
    Calls Try.prog 38 #[.pointer (some ⟨b, 0, none⟩)] w fun e w' => e = .returned (.int .i64 bs.length) ∧ w' = w := Any.Builder_Len Try.lays170 B b bs w h
def Try.lays169_ren : Go.Shelf.Ren := ⟨fun | 169 => 39 | n => n, fun | 70 => 71 | 9 => 9 | 0 => 0 | 72 => 73 | 37 => 40 | 127 => 93 | 3 => 3 | 5 => 5 | n => n, fun | n => n⟩
theorem Try.lays169 : Go.Proofs.Lays.n169 Try.prog Try.lays169_ren := {
  mixed := by kernel_rfl
  f169 := Try.func39.trans (congrArg some (by kernel_rfl))
  t0 := Try.underlying0
  a0 := Try.isAgg0
  z0 := Try.sizeOf0
  v0 := Try.zeroValue0
  t3 := Try.underlying3
  a3 := Try.isAgg3
  z3 := Try.sizeOf3
  v3 := Try.zeroValue3
  t9 := Try.underlying9
  a9 := Try.isAgg9
  z9 := Try.sizeOf9
  v9 := Try.zeroValue9
  t37 := Try.underlying40
  a37 := Try.isAgg40
  z37 := Try.sizeOf40
  v37 := Try.zeroValue40
  t70 := Try.underlying71
  a70 := Try.isAgg71
  z70 := Try.sizeOf71
  v70 := Try.zeroValue71
  t72 := Try.underlying73
  a72 := Try.isAgg73
  z72 := Try.sizeOf73
  v72 := Try.zeroValue73
  t127 := Try.underlying93
  a127 := Try.isAgg93
  z127 := Try.sizeOf93
  v127 := Try.zeroValue93 }
theorem Try.Builder_Extra_169 : Builder.Extra Try.prog Try.lays169_ren := {
  sizeBuilder := by kernel_rfl
  liesBuilder := by kernel_rfl
  t5 := Try.underlying5
  a5 := Try.isAgg5
  z5 := Try.sizeOf5
  v5 := Try.zeroValue5
  infoByte := by kernel_rfl
  cellsByte := by kernel_rfl
  sizeByte := by kernel_rfl
  neB5 := by decide }
open Go.RowKit in
/-- (*strings.Builder).String: "String returns the accumulated string.": OF A BUILDER THAT HOLDS AT LEAST ONE BYTE. ✋ THE MODEL FREEZES THOSE BYTES IN THE BUFFER (unsafe.String): a later write INTO them ends the model's run without an answer; a later append BEHIND them goes on. The statement's order of evaluation is drawn: one draw. (LAID: no walk: one application.) -/
theorem Try.Builder_String (B b : Nat) (l : List UInt8) (w : World) (h : Lib.IsBuilder 73 5 B b (Lib.byteCells l) w) (h0 : l ≠ []) :
    Calls Try.prog 39 #[.pointer (some ⟨b, 0, none⟩)] w fun e w' => e = .returned (.string ⟨l.toArray⟩) ∧ Below B w w' := Any.Builder_String Try.lays169 Try.Builder_Extra_169 B b l w h h0
open Go.RowKit in
/-- (*strings.Builder).String OF A BUILDER THAT HOLDS NO BYTE: the empty string. (Its buffer is nil, or a row of which it has taken nothing yet; where that row has NO capacity the model lays one new block for unsafe.SliceData's 'some address'.) One draw. (LAID: no walk: one application.) -/
theorem Try.Builder_String_empty (B b : Nat) (w : World) (h : Lib.IsBuilder 73 5 B b [] w) (hBw : B ≤ w.heap.size) :
    Calls Try.prog 39 #[.pointer (some ⟨b, 0, none⟩)] w fun e w' => e = .returned (.string ⟨#[]⟩) ∧ Below B w w' := Any.Builder_String_empty Try.lays169 Try.Builder_Extra_169 B b w h hBw
open Go.RowKit in
/-- (*strings.Builder).String: "String returns the accumulated string.": WHATEVER THE BUILDER HOLDS. (LAID: no walk: one application.) -/
theorem Try.Builder_String_any (B b : Nat) (l : List UInt8) (w : World) (h : Lib.IsBuilder 73 5 B b (Lib.byteCells l) w) (hBw : B ≤ w.heap.size) :
    Calls Try.prog 39 #[.pointer (some ⟨b, 0, none⟩)] w fun e w' => e = .returned (.string ⟨l.toArray⟩) ∧ Below B w w' := Any.Builder_String_any Try.lays169 Try.Builder_Extra_169 B b l w h hBw
def Try.lays241_ren : Go.Shelf.Ren := ⟨fun | 241 => 52 | 277 => 56 | n => n, fun | 70 => 71 | 3 => 3 | 0 => 0 | 72 => 73 | 37 => 40 | 5 => 5 | n => n, fun | n => n⟩
theorem Try.lays241 : Go.Proofs.Lays.n241 Try.prog Try.lays241_ren := {
  mixed := by kernel_rfl
  f241 := Try.func52.trans (congrArg some (by kernel_rfl))
  f277 := Try.func56.trans (congrArg some (by kernel_rfl))
  t0 := Try.underlying0
  a0 := Try.isAgg0
  z0 := Try.sizeOf0
  v0 := Try.zeroValue0
  t3 := Try.underlying3
  a3 := Try.isAgg3
  z3 := Try.sizeOf3
  v3 := Try.zeroValue3
  t37 := Try.underlying40
  a37 := Try.isAgg40
  z37 := Try.sizeOf40
  v37 := Try.zeroValue40
  t70 := Try.underlying71
  a70 := Try.isAgg71
  z70 := Try.sizeOf71
  v70 := Try.zeroValue71
  t72 := Try.underlying73
  a72 := Try.isAgg73
  z72 := Try.sizeOf73
  v72 := Try.zeroValue73 }
theorem Try.Builder_Extra_241 : Builder.Extra Try.prog Try.lays241_ren := {
  sizeBuilder := by kernel_rfl
  liesBuilder := by kernel_rfl
  t5 := Try.underlying5
  a5 := Try.isAgg5
  z5 := Try.sizeOf5
  v5 := Try.zeroValue5
  infoByte := by kernel_rfl
  cellsByte := by kernel_rfl
  sizeByte := by kernel_rfl
  neB5 := by decide }
open Go.RowKit in
/-- (*strings.Builder).grow (no doc but "grow copies the buffer to a new, larger buffer so that there are at least n bytes of capacity beyond len(b.buf)."): AT A BUILDER WITHOUT A BUFFER: a new row of whatever bytes for its buffer, none of them its own yet. Three draws. (LAID: no walk: one application.) -/
theorem Try.Builder_grow_fresh (B b n : Nat) (w : World) (hB : B ≤ b) (hbk : w.heap[b]? = some (.cells #[.pointer (some ⟨b, 0, none⟩), .slice none 0 0] 73 (0, 0))) (hBw : B ≤ w.heap.size) (hn : n ≤ 281474976710656) :
    Calls Try.prog 52 #[.pointer (some ⟨b, 0, none⟩), .int .i64 n] w fun e w' => e = .returned (.tuple #[]) ∧ (Lib.BuilderAt 73 5 B b (.pointer (some ⟨b, 0, none⟩)) [] w' ∧ Below B w w') := Any.Builder_grow_fresh Try.lays241 Try.Builder_Extra_241 B b n w hB hbk hBw hn
def Try.lays165_ren : Go.Shelf.Ren := ⟨fun | 165 => 36 | 240 => 51 | 241 => 52 | 276 => 55 | 277 => 56 | n => n, fun | 70 => 71 | 3 => 3 | 0 => 0 | 4 => 4 | 9 => 9 | 20 => 20 | 72 => 73 | 37 => 40 | 164 => 96 | 5 => 5 | n => n, fun | n => n⟩
theorem Try.lays165 : Go.Proofs.Lays.n165 Try.prog Try.lays165_ren := {
  mixed := by kernel_rfl
  f165 := Try.func36.trans (congrArg some (by kernel_rfl))
  f240 := Try.func51.trans (congrArg some (by kernel_rfl))
  f241 := Try.func52.trans (congrArg some (by kernel_rfl))
  f276 := Try.func55.trans (congrArg some (by kernel_rfl))
  f277 := Try.func56.trans (congrArg some (by kernel_rfl))
  t0 := Try.underlying0
  a0 := Try.isAgg0
  z0 := Try.sizeOf0
  v0 := Try.zeroValue0
  t3 := Try.underlying3
  a3 := Try.isAgg3
  z3 := Try.sizeOf3
  v3 := Try.zeroValue3
  t4 := Try.underlying4
  a4 := Try.isAgg4
  z4 := Try.sizeOf4
  v4 := Try.zeroValue4
  t9 := Try.underlying9
  a9 := Try.isAgg9
  z9 := Try.sizeOf9
  v9 := Try.zeroValue9
  t20 := Try.underlying20
  a20 := Try.isAgg20
  z20 := Try.sizeOf20
  v20 := Try.zeroValue20
  t37 := Try.underlying40
  a37 := Try.isAgg40
  z37 := Try.sizeOf40
  v37 := Try.zeroValue40
  t70 := Try.underlying71
  a70 := Try.isAgg71
  z70 := Try.sizeOf71
  v70 := Try.zeroValue71
  t72 := Try.underlying73
  a72 := Try.isAgg73
  z72 := Try.sizeOf73
  v72 := Try.zeroValue73
  t164 := Try.underlying96
  a164 := Try.isAgg96
  z164 := Try.sizeOf96
  v164 := Try.zeroValue96 }
theorem Try.Builder_Extra_165 : Builder.Extra Try.prog Try.lays165_ren := {
  sizeBuilder := by kernel_rfl
  liesBuilder := by kernel_rfl
  t5 := Try.underlying5
  a5 := Try.isAgg5
  z5 := Try.sizeOf5
  v5 := Try.zeroValue5
  infoByte := by kernel_rfl
  cellsByte := by kernel_rfl
  sizeByte := by kernel_rfl
  neB5 := by decide }
open Go.RowKit in
/-- (*strings.Builder).Grow AT A BUILDER THAT HAS NOT BEEN WRITTEN ('var b strings.Builder; b.Grow(n)'): "Grow grows b's capacity, if necessary, to guarantee space for another n bytes.": it holds no byte behind it as before it. (LAID: no walk: one application.) -/
theorem Try.Builder_Grow_fresh (B b n : Nat) (w : World) (hB : B ≤ b) (hbk : w.heap[b]? = some (.cells #[.pointer none, .slice none 0 0] 73 (0, 0))) (hBw : B ≤ w.heap.size) (hn : n ≤ 281474976710656) :
    Calls Try.prog 36 #[.pointer (some ⟨b, 0, none⟩), .int .i64 n] w fun e w' => e = .returned (.tuple #[]) ∧ (Lib.BuilderAt 73 5 B b (.pointer (some ⟨b, 0, none⟩)) [] w' ∧ Below B w w') := Any.Builder_Grow_fresh Try.lays165 Try.Builder_Extra_165 B b n w hB hbk hBw hn
open Go.RowKit in
/-- (*strings.Builder).Len: "Len returns the number of accumulated bytes; b.Len() == len(b.String()).": the world is as it was. (THE FORM '_f': 'Lib.IsBuilderF'.) (LAID: no walk: one application.) -/
theorem Try.Builder_Len_f (B b : Nat) (bs : List Value) (w : World) (h : Lib.IsBuilderF 73 5 B b bs w) :
    Calls Try.prog 38 #[.pointer (some ⟨b, 0, none⟩)] w fun e w' => e = .returned (.int .i64 bs.length) ∧ w' = w := Any.Builder_Len_f Try.lays170 B b bs w h
open Go.RowKit in
/-- (*strings.Builder).String: "String returns the accumulated string.": OF A BUILDER THAT HOLDS AT LEAST ONE BYTE. ✋ THE MODEL FREEZES THOSE BYTES IN THE BUFFER (unsafe.String): a later write INTO them ends the model's run without an answer; a later append BEHIND them goes on. The statement's order of evaluation is drawn: one draw. THE FORM '_f': IT SAYS BESIDES THAT THE BUILDER IS A BUILDER STILL ('Lib.IsBuilderF', the same bytes): SO IT CAN BE WRITTEN ON: 'b.WriteString(b.String()[:k])'. (LAID: no walk: one application.) -/
theorem Try.Builder_String_f (B b : Nat) (l : List UInt8) (w : World) (h : Lib.IsBuilderF 73 5 B b (Lib.byteCells l) w) (h0 : l ≠ []) :
    Calls Try.prog 39 #[.pointer (some ⟨b, 0, none⟩)] w fun e w' => e = .returned (.string ⟨l.toArray⟩) ∧ (Lib.IsBuilderF 73 5 B b (Lib.byteCells l) w' ∧ Below B w w') := Any.Builder_String_f Try.lays169 Try.Builder_Extra_169 B b l w h h0
open Go.RowKit in
/-- (*strings.Builder).String OF A BUILDER THAT HOLDS NO BYTE: the empty string; THE FORM '_f': a builder still. (LAID: no walk: one application.) -/
theorem Try.Builder_String_empty_f (B b : Nat) (w : World) (h : Lib.IsBuilderF 73 5 B b [] w) (hBw : B ≤ w.heap.size) :
    Calls Try.prog 39 #[.pointer (some ⟨b, 0, none⟩)] w fun e w' => e = .returned (.string ⟨#[]⟩) ∧ (Lib.IsBuilderF 73 5 B b [] w' ∧ Below B w w') := Any.Builder_String_empty_f Try.lays169 Try.Builder_Extra_169 B b w h hBw
open Go.RowKit in
/-- (*strings.Builder).String: "String returns the accumulated string.": WHATEVER THE BUILDER HOLDS; THE FORM '_f': OF A BUILDER THAT MAY HAVE BEEN READ BEFORE; AND IT IS A BUILDER STILL, holding the same bytes: it can be written on. (LAID: no walk: one application.) -/
theorem Try.Builder_String_any_f (B b : Nat) (l : List UInt8) (w : World) (h : Lib.IsBuilderF 73 5 B b (Lib.byteCells l) w) (hBw : B ≤ w.heap.size) :
    Calls Try.prog 39 #[.pointer (some ⟨b, 0, none⟩)] w fun e w' => e = .returned (.string ⟨l.toArray⟩) ∧ (Lib.IsBuilderF 73 5 B b (Lib.byteCells l) w' ∧ Below B w w') := Any.Builder_String_any_f Try.lays169 Try.Builder_Extra_169 B b l w h hBw
def Try.lays206_ren : Go.Shelf.Ren := ⟨fun | 206 => 50 | n => n, fun | 9 => 9 | 4 => 4 | 3 => 3 | n => n, fun | n => n⟩
theorem Try.lays206 : Go.Proofs.Lays.n206 Try.prog Try.lays206_ren := {
  mixed := by kernel_rfl
  f206 := Try.func50.trans (congrArg some (by kernel_rfl))
  t3 := Try.underlying3
  a3 := Try.isAgg3
  z3 := Try.sizeOf3
  v3 := Try.zeroValue3
  t4 := Try.underlying4
  a4 := Try.isAgg4
  z4 := Try.sizeOf4
  v4 := Try.zeroValue4
  t9 := Try.underlying9
  a9 := Try.isAgg9
  z9 := Try.sizeOf9
  v9 := Try.zeroValue9 }
open Go.RowKit Go.Lib in
/-- internal/stringslite.HasPrefix (what strings.HasPrefix calls). (LAID: no walk: one application.) -/
theorem Try.stringslite_HasPrefix (s p : ByteArray) (w : World) :
    Calls Try.prog 50 #[.string s, .string p] w fun e w' => e = .returned (.bool (Lib.hasPrefix s.data.toList p.data.toList)) ∧ w' = w := Any.stringslite_HasPrefix Try.lays206 s p w
def Try.lays99_ren : Go.Shelf.Ren := ⟨fun | 99 => 35 | 206 => 50 | n => n, fun | 9 => 9 | 4 => 4 | 3 => 3 | n => n, fun | n => n⟩
theorem Try.lays99 : Go.Proofs.Lays.n99 Try.prog Try.lays99_ren := {
  mixed := by kernel_rfl
  f99 := Try.func35.trans (congrArg some (by kernel_rfl))
  f206 := Try.func50.trans (congrArg some (by kernel_rfl))
  t3 := Try.underlying3
  a3 := Try.isAgg3
  z3 := Try.sizeOf3
  v3 := Try.zeroValue3
  t4 := Try.underlying4
  a4 := Try.isAgg4
  z4 := Try.sizeOf4
  v4 := Try.zeroValue4
  t9 := Try.underlying9
  a9 := Try.isAgg9
  z9 := Try.sizeOf9
  v9 := Try.zeroValue9 }
open Go.RowKit Go.Lib in
/-- strings.HasPrefix: "HasPrefix reports whether the string s begins with prefix.": IT RETURNS 'Lib.hasPrefix s prefix'; the world is as it was. (LAID: no walk: one application.) -/
theorem Try.strings_HasPrefix (s p : ByteArray) (w : World) :
    Calls Try.prog 35 #[.string s, .string p] w fun e w' => e = .returned (.bool (Lib.hasPrefix s.data.toList p.data.toList)) ∧ w' = w := Any.strings_HasPrefix Try.lays99 s p w
def Try.lays264_ren : Go.Shelf.Ren := ⟨fun | 264 => 49 | n => n, fun | 53 => 90 | 46 => 64 | n => n, fun | n => n⟩
theorem Try.lays264 : Go.Proofs.Lays.n264 Try.prog Try.lays264_ren := {
  mixed := by kernel_rfl
  f264 := Try.func49.trans (congrArg some (by kernel_rfl))
  t46 := Try.underlying64
  a46 := Try.isAgg64
  z46 := Try.sizeOf64
  v46 := Try.zeroValue64
  t53 := Try.underlying90
  a53 := Try.isAgg90
  z53 := Try.sizeOf90
  v53 := Try.zeroValue90 }
open Go.RowKit Go.Lib in
theorem Try.bits_Mul64 (x y : Nat) (hx : x < 18446744073709551616) (hy : y < 18446744073709551616) (w : World) :
    Calls Try.prog 49 #[.int .u64 x, .int .u64 y] w fun e w' => e = .returned (.tuple #[.int .u64 ((x * y / 18446744073709551616 : Nat) : Int), .int .u64 ((x * y % 18446744073709551616 : Nat) : Int)]) ∧ w' = w := Any.bits_Mul64 Try.lays264 x y hx hy w
def Try.lays212_ren : Go.Shelf.Ren := ⟨fun | 212 => 34 | 263 => 48 | 264 => 49 | n => n, fun | 46 => 64 | 51 => 87 | 146 => 88 | 53 => 90 | 148 => 91 | n => n, fun | n => n⟩
theorem Try.lays212 : Go.Proofs.Lays.n212 Try.prog Try.lays212_ren := {
  mixed := by kernel_rfl
  f212 := Try.func34.trans (congrArg some (by kernel_rfl))
  f263 := Try.func48.trans (congrArg some (by kernel_rfl))
  f264 := Try.func49.trans (congrArg some (by kernel_rfl))
  t46 := Try.underlying64
  a46 := Try.isAgg64
  z46 := Try.sizeOf64
  v46 := Try.zeroValue64
  t51 := Try.underlying87
  a51 := Try.isAgg87
  z51 := Try.sizeOf87
  v51 := Try.zeroValue87
  t53 := Try.underlying90
  a53 := Try.isAgg90
  z53 := Try.sizeOf90
  v53 := Try.zeroValue90
  t146 := Try.underlying88
  a146 := Try.isAgg88
  z146 := Try.sizeOf88
  v146 := Try.zeroValue88
  t148 := Try.underlying91
  a148 := Try.isAgg91
  z148 := Try.sizeOf91
  v148 := Try.zeroValue91 }
open Go.RowKit Go.Lib in
/-- math/bits.Mul: "Mul returns the full-width product of x and y": on a machine of 64 bits: Mul64's. (LAID: no walk: one application.) -/
theorem Try.bits_Mul (x y : Nat) (hx : x < 18446744073709551616) (hy : y < 18446744073709551616) (w : World) :
    Calls Try.prog 34 #[.int .u64 x, .int .u64 y] w fun e w' => e = .returned (.tuple #[.int .u64 ((x * y / 18446744073709551616 : Nat) : Int), .int .u64 ((x * y % 18446744073709551616 : Nat) : Int)]) ∧ w' = w := Any.bits_Mul Try.lays212 x y hx hy w
def Try.lays105_ren : Go.Shelf.Ren := ⟨fun | 105 => 24 | 212 => 34 | 99 => 35 | 165 => 36 | 166 => 37 | 170 => 38 | 169 => 39 | 263 => 48 | 264 => 49 | 206 => 50 | 240 => 51 | 241 => 52 | 276 => 55 | 277 => 56 | n => n, fun | 9 => 9 | 3 => 3 | 4 => 4 | 20 => 20 | 0 => 0 | 46 => 64 | 109 => 68 | 5 => 5 | 72 => 73 | 76 => 77 | 51 => 87 | 146 => 88 | 53 => 90 | 148 => 91 | 70 => 71 | 37 => 40 | 75 => 76 | 127 => 93 | 164 => 96 | 80 => 80 | n => n, fun | n => n⟩
theorem Try.lays105 : Go.Proofs.Lays.n105 Try.prog Try.lays105_ren := {
  mixed := by kernel_rfl
  f99 := Try.func35.trans (congrArg some (by kernel_rfl))
  f105 := Try.func24.trans (congrArg some (by kernel_rfl))
  f165 := Try.func36.trans (congrArg some (by kernel_rfl))
  f166 := Try.func37.trans (congrArg some (by kernel_rfl))
  f169 := Try.func39.trans (congrArg some (by kernel_rfl))
  f170 := Try.func38.trans (congrArg some (by kernel_rfl))
  f206 := Try.func50.trans (congrArg some (by kernel_rfl))
  f212 := Try.func34.trans (congrArg some (by kernel_rfl))
  f240 := Try.func51.trans (congrArg some (by kernel_rfl))
  f241 := Try.func52.trans (congrArg some (by kernel_rfl))
  f263 := Try.func48.trans (congrArg some (by kernel_rfl))
  f264 := Try.func49.trans (congrArg some (by kernel_rfl))
  f276 := Try.func55.trans (congrArg some (by kernel_rfl))
  f277 := Try.func56.trans (congrArg some (by kernel_rfl))
  t0 := Try.underlying0
  a0 := Try.isAgg0
  z0 := Try.sizeOf0
  v0 := Try.zeroValue0
  t3 := Try.underlying3
  a3 := Try.isAgg3
  z3 := Try.sizeOf3
  v3 := Try.zeroValue3
  t4 := Try.underlying4
  a4 := Try.isAgg4
  z4 := Try.sizeOf4
  v4 := Try.zeroValue4
  t5 := Try.underlying5
  a5 := Try.isAgg5
  z5 := Try.sizeOf5
  v5 := Try.zeroValue5
  t9 := Try.underlying9
  a9 := Try.isAgg9
  z9 := Try.sizeOf9
  v9 := Try.zeroValue9
  t20 := Try.underlying20
  a20 := Try.isAgg20
  z20 := Try.sizeOf20
  v20 := Try.zeroValue20
  t37 := Try.underlying40
  a37 := Try.isAgg40
  z37 := Try.sizeOf40
  v37 := Try.zeroValue40
  t46 := Try.underlying64
  a46 := Try.isAgg64
  z46 := Try.sizeOf64
  v46 := Try.zeroValue64
  t51 := Try.underlying87
  a51 := Try.isAgg87
  z51 := Try.sizeOf87
  v51 := Try.zeroValue87
  t53 := Try.underlying90
  a53 := Try.isAgg90
  z53 := Try.sizeOf90
  v53 := Try.zeroValue90
  t70 := Try.underlying71
  a70 := Try.isAgg71
  z70 := Try.sizeOf71
  v70 := Try.zeroValue71
  t72 := Try.underlying73
  a72 := Try.isAgg73
  z72 := Try.sizeOf73
  v72 := Try.zeroValue73
  t75 := Try.underlying76
  a75 := Try.isAgg76
  z75 := Try.sizeOf76
  v75 := Try.zeroValue76
  t76 := Try.underlying77
  a76 := Try.isAgg77
  z76 := Try.sizeOf77
  v76 := Try.zeroValue77
  t109 := Try.underlying68
  a109 := Try.isAgg68
  z109 := Try.sizeOf68
  v109 := Try.zeroValue68
  t127 := Try.underlying93
  a127 := Try.isAgg93
  z127 := Try.sizeOf93
  v127 := Try.zeroValue93
  t146 := Try.underlying88
  a146 := Try.isAgg88
  z146 := Try.sizeOf88
  v146 := Try.zeroValue88
  t148 := Try.underlying91
  a148 := Try.isAgg91
  z148 := Try.sizeOf91
  v148 := Try.zeroValue91
  t164 := Try.underlying96
  a164 := Try.isAgg96
  z164 := Try.sizeOf96
  v164 := Try.zeroValue96 }
theorem Try.Builder_Extra_105 : Builder.Extra Try.prog Try.lays105_ren := {
  sizeBuilder := by kernel_rfl
  liesBuilder := by kernel_rfl
  t5 := Try.underlying5
  a5 := Try.isAgg5
  z5 := Try.sizeOf5
  v5 := Try.zeroValue5
  infoByte := by kernel_rfl
  cellsByte := by kernel_rfl
  sizeByte := by kernel_rfl
  neB5 := by decide }
open Go.RowKit Go.Lib in
/-- THE MAIN CASE: at least two copies of a string that is not empty. (LAID: no walk: one application.) -/
theorem Try.strings_Repeat_main (s : ByteArray) (c : Nat) (w : World) (hc2 : 2 ≤ c) (hc : c ≤ 9223372036854775807) (hlen : s.size * c ≤ 140737488355328) (h0 : 0 < s.size) :
    Calls Try.prog 24 #[.string s, .int .i64 c] w fun e w' => e = .returned (.string ⟨(Lib.repeatL s.data.toList c).toArray⟩) ∧ Below w.heap.size w w' := Any.strings_Repeat_main Try.lays105 Try.Builder_Extra_105 s c w hc2 hc hlen h0
open Go.RowKit Go.Lib in
theorem Try.strings_Repeat_zero (s : ByteArray) (w : World) :
    Calls Try.prog 24 #[.string s, .int .i64 0] w fun e w' => e = .returned (.string ⟨#[]⟩) ∧ w' = w := Any.strings_Repeat_zero Try.lays105 s w
open Go.RowKit Go.Lib in
theorem Try.strings_Repeat_one (s : ByteArray) (w : World) :
    Calls Try.prog 24 #[.string s, .int .i64 1] w fun e w' => e = .returned (.string s) ∧ w' = w := Any.strings_Repeat_one Try.lays105 s w
open Go.RowKit Go.Lib in
/-- Copies of the empty string. (LAID: no walk: one application.) -/
theorem Try.strings_Repeat_empty (s : ByteArray) (c : Nat) (w : World) (hc2 : 2 ≤ c) (hc : c ≤ 9223372036854775807) (h0 : s.size = 0) :
    Calls Try.prog 24 #[.string s, .int .i64 c] w fun e w' => e = .returned (.string ⟨#[]⟩) ∧ w' = w := Any.strings_Repeat_empty Try.lays105 s c w hc2 hc h0
open Go.RowKit Go.Lib in
/-- count < 0: "It panics if count is negative". (LAID: no walk: one application.) -/
theorem Try.strings_Repeat_negative (s : ByteArray) (c : Int) (w : World) (hc : c < 0) :
    Calls Try.prog 24 #[.string s, .int .i64 c] w fun e w' => e = .panicked [{ v := repeatPanic Try.lays105_ren "strings: negative Repeat count", recovered := false }] ∧ w' = w := Any.strings_Repeat_negative Try.lays105 s c w hc
open Go.RowKit Go.Lib in
/-- len(s) * count is no int: ".. or if the result of (len(s) * count) overflows". (LAID: no walk: one application.) -/
theorem Try.strings_Repeat_overflow (s : ByteArray) (c : Nat) (w : World) (hc : c ≤ 9223372036854775807) (hs : s.size ≤ 9223372036854775807) (hbig : 9223372036854775807 < s.size * c) :
    Calls Try.prog 24 #[.string s, .int .i64 c] w fun e w' => e = .panicked [{ v := repeatPanic Try.lays105_ren "strings: Repeat output length overflow", recovered := false }] ∧ w' = w := Any.strings_Repeat_overflow Try.lays105 s c w hc hs hbig
open Go.RowKit Go.Lib in
/-- **strings.Repeat: count ≥ 0, the result within one allocation: count copies of s.** (LAID: no walk: one application.) -/
theorem Try.strings_Repeat (s : ByteArray) (c : Nat) (w : World) (hc : c ≤ 9223372036854775807) (hlen : s.size * c ≤ 140737488355328) :
    Calls Try.prog 24 #[.string s, .int .i64 c] w fun e w' => e = .returned (.string ⟨(Lib.repeatL s.data.toList c).toArray⟩) ∧ Below w.heap.size w w' := Any.strings_Repeat Try.lays105 Try.Builder_Extra_105 s c w hc hlen
end Go.Proofs
/- MxRep: what strings.Repeat gives: the kit's contract, as the evaluator takes it. Conditions: none. -/
set_option maxRecDepth 100000
namespace Go.Abs
open Go.Proofs Go.RowKit
theorem repN_eq (l : List UInt8) : ∀ c, repN l c = Lib.repeatL l c
  | 0 => rfl
  | c + 1 => by rw [repN, Lib.repeatL, repN_eq l c]
theorem rep_ok : PureOK Try.prog 24 repSpec := by
  intro args v h
  unfold repSpec at h
  split at h
  · rename_i s
    split at h
    · rename_i hs
      cases h
      refine ⟨rfl, rfl, fun w => callOK_of Try.func24 rfl (by decide +kernel) ?_⟩
      have h1 := Try.strings_Repeat s 10 w (by omega) (by omega)
      rw [← repN_eq] at h1
      exact h1
    · cases h
  · cases h
theorem cx_prim (B : Nat) : PrimOK cx B := by
  intro f p h
  simp only at h
  split at h
  · rename_i hf
    subst hf
    cases h
    exact ⟨pure_len _, pure_ok rep_ok⟩
  · cases h
theorem repN_len (l : List UInt8) : ∀ c, (repN l c).length = c * l.length
  | 0 => by simp [repN]
  | c + 1 => by rw [repN, List.length_append, repN_len l c, Nat.succ_mul]; omega
theorem rep_q (b : List UInt8) (h : AHeap) (hb : b.length ≤ 40) : Quiet cx 24 [.string (str b), .int .i64 10] h (.string (str (repN b 10))) := by
  refine Quiet.prim (spec := repSpec) rfl ?_
  show (if (str b).size ≤ 1000 then some (Value.string ⟨(repN (str b).data.toList 10).toArray⟩) else none) = _
  rw [if_pos (by rw [str_size]; omega)]
  rfl
end Go.Abs
/- MxRow0: facts that the rows of the multiplexer's laws share. Conditions: none. -/
set_option maxRecDepth 100000
namespace Go.Abs
open Go.Proofs
theorem cells3 : Try.prog.cellsOf 3 = 1 := by kernel_rfl
theorem bytes3 : Try.prog.bytesOf 3 = 8 := by kernel_rfl
theorem cells9 : Try.prog.cellsOf 9 = 1 := by kernel_rfl
theorem bytes9 : Try.prog.bytesOf 9 = 16 := by kernel_rfl
theorem flat9 : flatTypes Try.prog [9] = true := by kernel_rfl
theorem flat3 : flatTypes Try.prog [3] = true := by kernel_rfl
theorem strE_inv (cs : List Value) (h : Flat Try.prog 9 cs) : ∃ x : List UInt8, cs = strE x ∧ x.length ≤ 140737488351232 := by
  obtain ⟨s, rfl, hs⟩ := h.str_inv u_9
  obtain ⟨l, rfl, hl⟩ := str_of s
  exact ⟨l, rfl, by rw [hl]; exact hs⟩
theorem strE_pl (x : List UInt8) : (strE x).all (plainV 1) = true := rfl
theorem intE_inv (cs : List Value) (h : Flat Try.prog 3 cs) : ∃ x : Int, cs = intE x ∧ True := by
  obtain ⟨n, rfl, _⟩ := h.int_inv u_3
  exact ⟨n, rfl, trivial⟩
theorem intE_pl (x : Int) : (intE x).all (plainV 1) = true := rfl
theorem cx_mixed : cx.P.follows .mixedOrders = true := by kernel_rfl
end Go.Abs
/- Mx14: the walks of Stream and Reset. Conditions: none. -/
set_option maxRecDepth 100000
set_option linter.unusedSimpArgs false
set_option linter.unusedVariables false
namespace Go.Abs
open Go.Proofs
def doneS (s : Strm) : Bool := s.over && decide (s.inn = [])
theorem stream_q (m : MuxS) (id i : Nat) (s : Strm) {h : AHeap} {p : Nat} {sb : Option Nat} {ids : List Nat} (a : MuxAt h p sb ids m) (hl : ids.length < 2 ^ 40) (hf : findS m id = (i : Int)) (hs : m.streams[i]? = some s) :
    Quiet cx 22 [ptrC p, .int .i64 id] h (.tuple #[.string (str s.head), .bool (doneS s), .bool s.reset, .int .i64 0]) := by
  refine FW_f Try.func22 rfl (by decide +kernel) ?_
  simp -dsimp -implicitDefEqProofs (disch := first | omega | (simp only [stT, u_1, ag_1, sz_1, by_1, ze_1, es_1, u_3, ag_3, sz_3, by_3, ze_3, es_3, u_4, ag_4, sz_4, by_4, ze_4, bo_4, es_4, u_9, ag_9, sz_9, by_9, ze_9, es_9, u_10, ag_10, sz_10, by_10, ze_10, es_10, u_26, ag_26, sz_26, by_26, ze_26, es_26, u_27, ag_27, sz_27, by_27, ze_27, es_27, u_57, ag_57, sz_57, by_57, ze_57, es_57, u_63, f_63_0, f_63_1, f_63_2, f_63_3, f_63_4, f_63_5, f_63_6, f_63_7, f_63_8, f_63_9, f_63_10, ag_63, sz_63, by_63, ze_63, pl_63, es_63]; done) | (simp only [List.append_assoc, List.cons_append, List.nil_append, pre_n, pre_c, pre_a, pre_g, pre_r]; done) | (simp only [List.length_set]; done) | (simp only [List.length_set]; omega) | assumption | decide +kernel | fail) only [↓RP, RQ, isConstA, Nat.reduceEqDiff, Nat.reduceLT, Nat.reduceAdd, Int.reduceNeg, Int.reduceLT, Int.reduceLE, Int.reduceToNat, Int.reduceEq, ↓reduceIte, ite_true, ite_false, Option.toList, Nat.reduceMul, Nat.reduceSub, Nat.reduceLeDiff, ne_eq, eq_self, u_1, ag_1, sz_1, by_1, ze_1, es_1, u_3, ag_3, sz_3, by_3, ze_3, es_3, u_4, ag_4, sz_4, by_4, ze_4, bo_4, es_4, u_9, ag_9, sz_9, by_9, ze_9, es_9, u_10, ag_10, sz_10, by_10, ze_10, es_10, u_26, ag_26, sz_26, by_26, ze_26, es_26, u_27, ag_27, sz_27, by_27, ze_27, es_27, u_57, ag_57, sz_57, by_57, ze_57, es_57, u_63, f_63_0, f_63_1, f_63_2, f_63_3, f_63_4, f_63_5, f_63_6, f_63_7, f_63_8, f_63_9, f_63_10, ag_63, sz_63, by_63, ze_63, pl_63, es_63, ↓AW_loop]
  refine (find_q m id a hl).use' fun g => ?_
  obtain ⟨b, hib, hbb⟩ := a.idb hs
  have hbX := fun X => blkA_app X hbb
  rw [hf, findV_at hib]
  unfold doneS
  cases hov : s.over with
  | true =>
    by_cases hin : s.inn = []
    · simp -dsimp -implicitDefEqProofs (disch := first | omega | (simp only [stT, u_1, ag_1, sz_1, by_1, ze_1, es_1, u_3, ag_3, sz_3, by_3, ze_3, es_3, u_4, ag_4, sz_4, by_4, ze_4, bo_4, es_4, u_9, ag_9, sz_9, by_9, ze_9, es_9, u_10, ag_10, sz_10, by_10, ze_10, es_10, u_26, ag_26, sz_26, by_26, ze_26, es_26, u_27, ag_27, sz_27, by_27, ze_27, es_27, u_57, ag_57, sz_57, by_57, ze_57, es_57, u_63, f_63_0, f_63_1, f_63_2, f_63_3, f_63_4, f_63_5, f_63_6, f_63_7, f_63_8, f_63_9, f_63_10, ag_63, sz_63, by_63, ze_63, pl_63, es_63]; done) | (simp only [List.append_assoc, List.cons_append, List.nil_append, pre_n, pre_c, pre_a, pre_g, pre_r]; done) | (simp only [List.length_set]; done) | (simp only [List.length_set]; omega) | assumption | decide +kernel | fail) only [↓RP, RQ, isConstA, Nat.reduceEqDiff, Nat.reduceLT, Nat.reduceAdd, Int.reduceNeg, Int.reduceLT, Int.reduceLE, Int.reduceToNat, Int.reduceEq, ↓reduceIte, ite_true, ite_false, Option.toList, Nat.reduceMul, Nat.reduceSub, Nat.reduceLeDiff, ne_eq, eq_self, u_1, ag_1, sz_1, by_1, ze_1, es_1, u_3, ag_3, sz_3, by_3, ze_3, es_3, u_4, ag_4, sz_4, by_4, ze_4, bo_4, es_4, u_9, ag_9, sz_9, by_9, ze_9, es_9, u_10, ag_10, sz_10, by_10, ze_10, es_10, u_26, ag_26, sz_26, by_26, ze_26, es_26, u_27, ag_27, sz_27, by_27, ze_27, es_27, u_57, ag_57, sz_57, by_57, ze_57, es_57, u_63, f_63_0, f_63_1, f_63_2, f_63_3, f_63_4, f_63_5, f_63_6, f_63_7, f_63_8, f_63_9, f_63_10, ag_63, sz_63, by_63, ze_63, pl_63, es_63, ↓AW_loop, hbX, strmC, ptrC, hov, hin]
      exact ⟨by decide +kernel, Ext.app _ _⟩
    · simp -dsimp -implicitDefEqProofs (disch := first | omega | (simp only [stT, u_1, ag_1, sz_1, by_1, ze_1, es_1, u_3, ag_3, sz_3, by_3, ze_3, es_3, u_4, ag_4, sz_4, by_4, ze_4, bo_4, es_4, u_9, ag_9, sz_9, by_9, ze_9, es_9, u_10, ag_10, sz_10, by_10, ze_10, es_10, u_26, ag_26, sz_26, by_26, ze_26, es_26, u_27, ag_27, sz_27, by_27, ze_27, es_27, u_57, ag_57, sz_57, by_57, ze_57, es_57, u_63, f_63_0, f_63_1, f_63_2, f_63_3, f_63_4, f_63_5, f_63_6, f_63_7, f_63_8, f_63_9, f_63_10, ag_63, sz_63, by_63, ze_63, pl_63, es_63]; done) | (simp only [List.append_assoc, List.cons_append, List.nil_append, pre_n, pre_c, pre_a, pre_g, pre_r]; done) | (simp only [List.length_set]; done) | (simp only [List.length_set]; omega) | assumption | decide +kernel | fail) only [↓RP, RQ, isConstA, Nat.reduceEqDiff, Nat.reduceLT, Nat.reduceAdd, Int.reduceNeg, Int.reduceLT, Int.reduceLE, Int.reduceToNat, Int.reduceEq, ↓reduceIte, ite_true, ite_false, Option.toList, Nat.reduceMul, Nat.reduceSub, Nat.reduceLeDiff, ne_eq, eq_self, u_1, ag_1, sz_1, by_1, ze_1, es_1, u_3, ag_3, sz_3, by_3, ze_3, es_3, u_4, ag_4, sz_4, by_4, ze_4, bo_4, es_4, u_9, ag_9, sz_9, by_9, ze_9, es_9, u_10, ag_10, sz_10, by_10, ze_10, es_10, u_26, ag_26, sz_26, by_26, ze_26, es_26, u_27, ag_27, sz_27, by_27, ze_27, es_27, u_57, ag_57, sz_57, by_57, ze_57, es_57, u_63, f_63_0, f_63_1, f_63_2, f_63_3, f_63_4, f_63_5, f_63_6, f_63_7, f_63_8, f_63_9, f_63_10, ag_63, sz_63, by_63, ze_63, pl_63, es_63, ↓AW_loop, hbX, strmC, ptrC, hov, hin]
      exact ⟨by decide +kernel, Ext.app _ _⟩
  | false =>
    simp -dsimp -implicitDefEqProofs (disch := first | omega | (simp only [stT, u_1, ag_1, sz_1, by_1, ze_1, es_1, u_3, ag_3, sz_3, by_3, ze_3, es_3, u_4, ag_4, sz_4, by_4, ze_4, bo_4, es_4, u_9, ag_9, sz_9, by_9, ze_9, es_9, u_10, ag_10, sz_10, by_10, ze_10, es_10, u_26, ag_26, sz_26, by_26, ze_26, es_26, u_27, ag_27, sz_27, by_27, ze_27, es_27, u_57, ag_57, sz_57, by_57, ze_57, es_57, u_63, f_63_0, f_63_1, f_63_2, f_63_3, f_63_4, f_63_5, f_63_6, f_63_7, f_63_8, f_63_9, f_63_10, ag_63, sz_63, by_63, ze_63, pl_63, es_63]; done) | (simp only [List.append_assoc, List.cons_append, List.nil_append, pre_n, pre_c, pre_a, pre_g, pre_r]; done) | (simp only [List.length_set]; done) | (simp only [List.length_set]; omega) | assumption | decide +kernel | fail) only [↓RP, RQ, isConstA, Nat.reduceEqDiff, Nat.reduceLT, Nat.reduceAdd, Int.reduceNeg, Int.reduceLT, Int.reduceLE, Int.reduceToNat, Int.reduceEq, ↓reduceIte, ite_true, ite_false, Option.toList, Nat.reduceMul, Nat.reduceSub, Nat.reduceLeDiff, ne_eq, eq_self, u_1, ag_1, sz_1, by_1, ze_1, es_1, u_3, ag_3, sz_3, by_3, ze_3, es_3, u_4, ag_4, sz_4, by_4, ze_4, bo_4, es_4, u_9, ag_9, sz_9, by_9, ze_9, es_9, u_10, ag_10, sz_10, by_10, ze_10, es_10, u_26, ag_26, sz_26, by_26, ze_26, es_26, u_27, ag_27, sz_27, by_27, ze_27, es_27, u_57, ag_57, sz_57, by_57, ze_57, es_57, u_63, f_63_0, f_63_1, f_63_2, f_63_3, f_63_4, f_63_5, f_63_6, f_63_7, f_63_8, f_63_9, f_63_10, ag_63, sz_63, by_63, ze_63, pl_63, es_63, ↓AW_loop, hbX, strmC, ptrC, hov]
    exact ⟨by decide +kernel, rfl, Ext.app _ _⟩
def resetM (m : MuxS) (i : Nat) (s : Strm) (id : Nat) : MuxS := { m with streams := m.streams.set i { s with reset := true, out := [], inn := [] }, control := m.control ++ frameS 4 id [] }
theorem reset_q (m : MuxS) (id i : Nat) (s : Strm) {h : AHeap} {p : Nat} {sb : Option Nat} {ids : List Nat} (a : MuxAt h p sb ids m) (hl : ids.length < 2 ^ 40) (hf : findS m id = (i : Int)) (hs : m.streams[i]? = some s) (hb : m.broken = false) (hr : s.reset = false) (hc : m.control.length < 2 ^ 40) :
    FW cx 23 [ptrC p, .int .i64 id] h fun v h' => v = .int .i64 0 ∧ MuxAt h' p sb ids (resetM m i s id) ∧ Upd h h' (foot p sb ids) (foot p sb ids) := by
  refine FW_f Try.func23 rfl (by decide +kernel) ?_
  simp -dsimp -implicitDefEqProofs (disch := first | omega | (simp only [stT, u_2, ag_2, sz_2, by_2, ze_2, es_2, u_3, ag_3, sz_3, by_3, ze_3, es_3, u_4, ag_4, sz_4, by_4, ze_4, bo_4, es_4, u_6, ag_6, sz_6, by_6, ze_6, u8_6, es_6, u_8, f_8_0, f_8_1, f_8_2, f_8_3, ag_8, sz_8, by_8, ze_8, pl_8, es_8, u_9, ag_9, sz_9, by_9, ze_9, es_9, u_10, ag_10, sz_10, by_10, ze_10, es_10, u_26, ag_26, sz_26, by_26, ze_26, es_26, u_27, ag_27, sz_27, by_27, ze_27, es_27, u_53, ag_53, sz_53, by_53, ze_53, es_53, u_55, f_55_0, f_55_1, f_55_2, f_55_3, f_55_4, f_55_5, f_55_6, f_55_7, f_55_8, ag_55, sz_55, by_55, ze_55, pl_55, es_55, u_57, ag_57, sz_57, by_57, ze_57, es_57, u_63, f_63_0, f_63_1, f_63_2, f_63_3, f_63_4, f_63_5, f_63_6, f_63_7, f_63_8, f_63_9, f_63_10, ag_63, sz_63, by_63, ze_63, pl_63, es_63]; done) | (simp only [List.append_assoc, List.cons_append, List.nil_append, pre_n, pre_c, pre_a, pre_g, pre_r]; done) | (simp only [List.length_set]; done) | (simp only [List.length_set]; omega) | assumption | decide +kernel | fail) only [↓RP, RQ, isConstA, Nat.reduceEqDiff, Nat.reduceLT, Nat.reduceAdd, Int.reduceNeg, Int.reduceLT, Int.reduceLE, Int.reduceToNat, Int.reduceEq, ↓reduceIte, ite_true, ite_false, Option.toList, Nat.reduceMul, Nat.reduceSub, Nat.reduceLeDiff, ne_eq, eq_self, u_2, ag_2, sz_2, by_2, ze_2, es_2, u_3, ag_3, sz_3, by_3, ze_3, es_3, u_4, ag_4, sz_4, by_4, ze_4, bo_4, es_4, u_6, ag_6, sz_6, by_6, ze_6, u8_6, es_6, u_8, f_8_0, f_8_1, f_8_2, f_8_3, ag_8, sz_8, by_8, ze_8, pl_8, es_8, u_9, ag_9, sz_9, by_9, ze_9, es_9, u_10, ag_10, sz_10, by_10, ze_10, es_10, u_26, ag_26, sz_26, by_26, ze_26, es_26, u_27, ag_27, sz_27, by_27, ze_27, es_27, u_53, ag_53, sz_53, by_53, ze_53, es_53, u_55, f_55_0, f_55_1, f_55_2, f_55_3, f_55_4, f_55_5, f_55_6, f_55_7, f_55_8, ag_55, sz_55, by_55, ze_55, pl_55, es_55, u_57, ag_57, sz_57, by_57, ze_57, es_57, u_63, f_63_0, f_63_1, f_63_2, f_63_3, f_63_4, f_63_5, f_63_6, f_63_7, f_63_8, f_63_9, f_63_10, ag_63, sz_63, by_63, ze_63, pl_63, es_63, ↓AW_loop]
  refine (find_q m id a hl).use' fun g => ?_
  obtain ⟨b, hib, hbb⟩ := a.idb hs
  have hbX := fun X => blkA_app X hbb
  have htX := fun X => blkA_app X a.top
  have hbl := blkA_lt hbb
  have hmem := List.mem_of_getElem? hib
  rw [hf, findV_at hib]
  have a1 := (a.setStr hib { s with reset := true, out := [], inn := [] }).app g
  have u1 := ((Upd.refl h (foot p sb ids)).set (b := b) (v := some (.cells ⟨strmC { s with reset := true, out := [], inn := [] }, 11, false⟩)) (by simp [foot, hmem])).more g
  have ht1 := a1.top
  have ht2 := ht1
  simp only [strmC] at a1 u1 ht1 ht2
  simp only [muxC, hb] at ht2
  simp -dsimp -implicitDefEqProofs (disch := first | omega | (simp only [stT, u_2, ag_2, sz_2, by_2, ze_2, es_2, u_3, ag_3, sz_3, by_3, ze_3, es_3, u_4, ag_4, sz_4, by_4, ze_4, bo_4, es_4, u_6, ag_6, sz_6, by_6, ze_6, u8_6, es_6, u_8, f_8_0, f_8_1, f_8_2, f_8_3, ag_8, sz_8, by_8, ze_8, pl_8, es_8, u_9, ag_9, sz_9, by_9, ze_9, es_9, u_10, ag_10, sz_10, by_10, ze_10, es_10, u_26, ag_26, sz_26, by_26, ze_26, es_26, u_27, ag_27, sz_27, by_27, ze_27, es_27, u_53, ag_53, sz_53, by_53, ze_53, es_53, u_55, f_55_0, f_55_1, f_55_2, f_55_3, f_55_4, f_55_5, f_55_6, f_55_7, f_55_8, ag_55, sz_55, by_55, ze_55, pl_55, es_55, u_57, ag_57, sz_57, by_57, ze_57, es_57, u_63, f_63_0, f_63_1, f_63_2, f_63_3, f_63_4, f_63_5, f_63_6, f_63_7, f_63_8, f_63_9, f_63_10, ag_63, sz_63, by_63, ze_63, pl_63, es_63]; done) | (simp only [List.append_assoc, List.cons_append, List.nil_append, pre_n, pre_c, pre_a, pre_g, pre_r]; done) | (simp only [List.length_set]; done) | (simp only [List.length_set]; omega) | assumption | decide +kernel | fail) only [↓RP, RQ, isConstA, Nat.reduceEqDiff, Nat.reduceLT, Nat.reduceAdd, Int.reduceNeg, Int.reduceLT, Int.reduceLE, Int.reduceToNat, Int.reduceEq, ↓reduceIte, ite_true, ite_false, Option.toList, Nat.reduceMul, Nat.reduceSub, Nat.reduceLeDiff, ne_eq, eq_self, u_2, ag_2, sz_2, by_2, ze_2, es_2, u_3, ag_3, sz_3, by_3, ze_3, es_3, u_4, ag_4, sz_4, by_4, ze_4, bo_4, es_4, u_6, ag_6, sz_6, by_6, ze_6, u8_6, es_6, u_8, f_8_0, f_8_1, f_8_2, f_8_3, ag_8, sz_8, by_8, ze_8, pl_8, es_8, u_9, ag_9, sz_9, by_9, ze_9, es_9, u_10, ag_10, sz_10, by_10, ze_10, es_10, u_26, ag_26, sz_26, by_26, ze_26, es_26, u_27, ag_27, sz_27, by_27, ze_27, es_27, u_53, ag_53, sz_53, by_53, ze_53, es_53, u_55, f_55_0, f_55_1, f_55_2, f_55_3, f_55_4, f_55_5, f_55_6, f_55_7, f_55_8, ag_55, sz_55, by_55, ze_55, pl_55, es_55, u_57, ag_57, sz_57, by_57, ze_57, es_57, u_63, f_63_0, f_63_1, f_63_2, f_63_3, f_63_4, f_63_5, f_63_6, f_63_7, f_63_8, f_63_9, f_63_10, ag_63, sz_63, by_63, ze_63, pl_63, es_63, ↓AW_loop, hbX, htX, strmC, ptrC, muxC, hb, hr, ht2]
  refine ⟨by decide +kernel, ?_⟩
  generalize h.set b (some (.cells ⟨[.int .i64 s.id, .string (str s.head), .string (str []), .string (str []), .int .i64 s.window, .int .i64 s.room, .int .i64 s.taken, .bool s.ends, .bool s.ended, .bool s.over, .bool true], 11, false⟩)) ++ g = h1 at *
  refine (frame_q 4 id [] (by simp) _).use' fun g2 => ?_
  have ht3 := blkA_app g2 ht2
  refine DQ_fx1 (t := 9) (u := 33) (v := .pointer (some ⟨p, 4, none⟩)) (by kernel_rfl) (by simp -dsimp -implicitDefEqProofs (disch := first | omega | (simp only [stT, u_2, ag_2, sz_2, by_2, ze_2, es_2, u_3, ag_3, sz_3, by_3, ze_3, es_3, u_4, ag_4, sz_4, by_4, ze_4, bo_4, es_4, u_6, ag_6, sz_6, by_6, ze_6, u8_6, es_6, u_8, f_8_0, f_8_1, f_8_2, f_8_3, ag_8, sz_8, by_8, ze_8, pl_8, es_8, u_9, ag_9, sz_9, by_9, ze_9, es_9, u_10, ag_10, sz_10, by_10, ze_10, es_10, u_26, ag_26, sz_26, by_26, ze_26, es_26, u_27, ag_27, sz_27, by_27, ze_27, es_27, u_53, ag_53, sz_53, by_53, ze_53, es_53, u_55, f_55_0, f_55_1, f_55_2, f_55_3, f_55_4, f_55_5, f_55_6, f_55_7, f_55_8, ag_55, sz_55, by_55, ze_55, pl_55, es_55, u_57, ag_57, sz_57, by_57, ze_57, es_57, u_63, f_63_0, f_63_1, f_63_2, f_63_3, f_63_4, f_63_5, f_63_6, f_63_7, f_63_8, f_63_9, f_63_10, ag_63, sz_63, by_63, ze_63, pl_63, es_63]; done) | (simp only [List.append_assoc, List.cons_append, List.nil_append, pre_n, pre_c, pre_a, pre_g, pre_r]; done) | (simp only [List.length_set]; done) | (simp only [List.length_set]; omega) | assumption | decide +kernel | fail) only [↓RP, RQ, isConstA, Nat.reduceEqDiff, Nat.reduceLT, Nat.reduceAdd, Int.reduceNeg, Int.reduceLT, Int.reduceLE, Int.reduceToNat, Int.reduceEq, ↓reduceIte, ite_true, ite_false, Option.toList, Nat.reduceMul, Nat.reduceSub, Nat.reduceLeDiff, ne_eq, eq_self, u_2, ag_2, sz_2, by_2, ze_2, es_2, u_3, ag_3, sz_3, by_3, ze_3, es_3, u_4, ag_4, sz_4, by_4, ze_4, bo_4, es_4, u_6, ag_6, sz_6, by_6, ze_6, u8_6, es_6, u_8, f_8_0, f_8_1, f_8_2, f_8_3, ag_8, sz_8, by_8, ze_8, pl_8, es_8, u_9, ag_9, sz_9, by_9, ze_9, es_9, u_10, ag_10, sz_10, by_10, ze_10, es_10, u_26, ag_26, sz_26, by_26, ze_26, es_26, u_27, ag_27, sz_27, by_27, ze_27, es_27, u_53, ag_53, sz_53, by_53, ze_53, es_53, u_55, f_55_0, f_55_1, f_55_2, f_55_3, f_55_4, f_55_5, f_55_6, f_55_7, f_55_8, ag_55, sz_55, by_55, ze_55, pl_55, es_55, u_57, ag_57, sz_57, by_57, ze_57, es_57, u_63, f_63_0, f_63_1, f_63_2, f_63_3, f_63_4, f_63_5, f_63_6, f_63_7, f_63_8, f_63_9, f_63_10, ag_63, sz_63, by_63, ze_63, pl_63, es_63, ↓AW_loop]) ?_ ?_
  · rw [loadA_eq, loadA_eq, ht2, ht3]
  · simp -dsimp -implicitDefEqProofs (disch := first | omega | (simp only [stT, u_2, ag_2, sz_2, by_2, ze_2, es_2, u_3, ag_3, sz_3, by_3, ze_3, es_3, u_4, ag_4, sz_4, by_4, ze_4, bo_4, es_4, u_6, ag_6, sz_6, by_6, ze_6, u8_6, es_6, u_8, f_8_0, f_8_1, f_8_2, f_8_3, ag_8, sz_8, by_8, ze_8, pl_8, es_8, u_9, ag_9, sz_9, by_9, ze_9, es_9, u_10, ag_10, sz_10, by_10, ze_10, es_10, u_26, ag_26, sz_26, by_26, ze_26, es_26, u_27, ag_27, sz_27, by_27, ze_27, es_27, u_53, ag_53, sz_53, by_53, ze_53, es_53, u_55, f_55_0, f_55_1, f_55_2, f_55_3, f_55_4, f_55_5, f_55_6, f_55_7, f_55_8, ag_55, sz_55, by_55, ze_55, pl_55, es_55, u_57, ag_57, sz_57, by_57, ze_57, es_57, u_63, f_63_0, f_63_1, f_63_2, f_63_3, f_63_4, f_63_5, f_63_6, f_63_7, f_63_8, f_63_9, f_63_10, ag_63, sz_63, by_63, ze_63, pl_63, es_63]; done) | (simp only [List.append_assoc, List.cons_append, List.nil_append, pre_n, pre_c, pre_a, pre_g, pre_r]; done) | (simp only [List.length_set]; done) | (simp only [List.length_set]; omega) | assumption | decide +kernel | fail) only [↓RP, RQ, isConstA, Nat.reduceEqDiff, Nat.reduceLT, Nat.reduceAdd, Int.reduceNeg, Int.reduceLT, Int.reduceLE, Int.reduceToNat, Int.reduceEq, ↓reduceIte, ite_true, ite_false, Option.toList, Nat.reduceMul, Nat.reduceSub, Nat.reduceLeDiff, ne_eq, eq_self, u_2, ag_2, sz_2, by_2, ze_2, es_2, u_3, ag_3, sz_3, by_3, ze_3, es_3, u_4, ag_4, sz_4, by_4, ze_4, bo_4, es_4, u_6, ag_6, sz_6, by_6, ze_6, u8_6, es_6, u_8, f_8_0, f_8_1, f_8_2, f_8_3, ag_8, sz_8, by_8, ze_8, pl_8, es_8, u_9, ag_9, sz_9, by_9, ze_9, es_9, u_10, ag_10, sz_10, by_10, ze_10, es_10, u_26, ag_26, sz_26, by_26, ze_26, es_26, u_27, ag_27, sz_27, by_27, ze_27, es_27, u_53, ag_53, sz_53, by_53, ze_53, es_53, u_55, f_55_0, f_55_1, f_55_2, f_55_3, f_55_4, f_55_5, f_55_6, f_55_7, f_55_8, ag_55, sz_55, by_55, ze_55, pl_55, es_55, u_57, ag_57, sz_57, by_57, ze_57, es_57, u_63, f_63_0, f_63_1, f_63_2, f_63_3, f_63_4, f_63_5, f_63_6, f_63_7, f_63_8, f_63_9, f_63_10, ag_63, sz_63, by_63, ze_63, pl_63, es_63, ↓AW_loop, ht3]
    have a2 := (a1.app g2).setTop (m' := resetM m i s id) rfl
    simp only [muxC, resetM, hb] at a2
    refine ⟨by rw [frameS_len]; simp only [List.length_nil]; omega, ?_, (u1.more g2).set (by simp [foot])⟩
    simp only [resetM, hb]
    exact a2
end Go.Abs
/- Mx15: the walk of Read. Conditions: none. -/
set_option maxRecDepth 100000
set_option linter.unusedSimpArgs false
set_option linter.unusedVariables false
namespace Go.Abs
open Go.Proofs
/-- What a reading leaves, and what it says to the other end. -/
def readG (m : MuxS) (s : Strm) (n : Nat) : Prop := m.window ≤ 2 * (s.taken + n) ∧ s.over = false ∧ s.reset = false
instance (m : MuxS) (s : Strm) (n : Nat) : Decidable (readG m s n) := by unfold readG; exact inferInstance
def readM (m : MuxS) (i : Nat) (s : Strm) (id n : Nat) : MuxS :=
  if readG m s n then { m with streams := m.streams.set i { s with inn := s.inn.drop n, taken := 0, room := s.room + (s.taken + n) }, control := m.control ++ frameS 5 id [UInt8.ofNat ((s.taken + n) / 256), UInt8.ofNat (s.taken + n)] }
  else { m with streams := m.streams.set i { s with inn := s.inn.drop n, taken := s.taken + n } }
theorem read_q (m : MuxS) (id i most : Nat) (s : Strm) {h : AHeap} {p : Nat} {sb : Option Nat} {ids : List Nat} (a : MuxAt h p sb ids m) (hl : ids.length < 2 ^ 40) (hf : findS m id = (i : Int)) (hs : m.streams[i]? = some s) (hb : m.broken = false) (hc : m.control.length < 2 ^ 40)
    (hw : m.window < 2 ^ 40) (ht : s.taken < 2 ^ 40) (hi : s.inn.length < 2 ^ 40) (hr : s.room < 2 ^ 40) (hm : most < 2 ^ 40) :
    FW cx 25 [ptrC p, .int .i64 id, .int .i64 most] h fun v h' => v = .tuple #[.string (str (s.inn.take (min most s.inn.length))), .int .i64 0] ∧ MuxAt h' p sb ids (readM m i s id (min most s.inn.length)) ∧ Upd h h' (foot p sb ids) (foot p sb ids) := by
  refine FW_f Try.func25 rfl (by decide +kernel) ?_
  simp -dsimp -implicitDefEqProofs (disch := first | omega | (simp only [stT, u_1, ag_1, sz_1, by_1, ze_1, es_1, u_2, ag_2, sz_2, by_2, ze_2, es_2, u_3, ag_3, sz_3, by_3, ze_3, es_3, u_4, ag_4, sz_4, by_4, ze_4, bo_4, es_4, u_5, ag_5, sz_5, by_5, ze_5, u8_5, es_5, u_6, ag_6, sz_6, by_6, ze_6, u8_6, es_6, u_8, f_8_0, f_8_1, f_8_2, f_8_3, ag_8, sz_8, by_8, ze_8, pl_8, es_8, u_9, ag_9, sz_9, by_9, ze_9, es_9, u_10, ag_10, sz_10, by_10, ze_10, es_10, u_26, ag_26, sz_26, by_26, ze_26, es_26, u_27, ag_27, sz_27, by_27, ze_27, es_27, u_40, ag_40, sz_40, by_40, ze_40, es_40, u_53, ag_53, sz_53, by_53, ze_53, es_53, u_55, f_55_0, f_55_1, f_55_2, f_55_3, f_55_4, f_55_5, f_55_6, f_55_7, f_55_8, ag_55, sz_55, by_55, ze_55, pl_55, es_55, u_57, ag_57, sz_57, by_57, ze_57, es_57, u_63, f_63_0, f_63_1, f_63_2, f_63_3, f_63_4, f_63_5, f_63_6, f_63_7, f_63_8, f_63_9, f_63_10, ag_63, sz_63, by_63, ze_63, pl_63, es_63, u_64, ag_64, sz_64, by_64, ze_64, es_64]; done) | (simp only [List.append_assoc, List.cons_append, List.nil_append, pre_n, pre_c, pre_a, pre_g, pre_r]; done) | (simp only [List.length_set]; done) | (simp only [List.length_set]; omega) | assumption | decide +kernel | fail) only [↓RP, RQ, isConstA, Nat.reduceEqDiff, Nat.reduceLT, Nat.reduceAdd, Int.reduceNeg, Int.reduceLT, Int.reduceLE, Int.reduceToNat, Int.reduceEq, ↓reduceIte, ite_true, ite_false, Option.toList, Nat.reduceMul, Nat.reduceSub, Nat.reduceLeDiff, ne_eq, eq_self, u_1, ag_1, sz_1, by_1, ze_1, es_1, u_2, ag_2, sz_2, by_2, ze_2, es_2, u_3, ag_3, sz_3, by_3, ze_3, es_3, u_4, ag_4, sz_4, by_4, ze_4, bo_4, es_4, u_5, ag_5, sz_5, by_5, ze_5, u8_5, es_5, u_6, ag_6, sz_6, by_6, ze_6, u8_6, es_6, u_8, f_8_0, f_8_1, f_8_2, f_8_3, ag_8, sz_8, by_8, ze_8, pl_8, es_8, u_9, ag_9, sz_9, by_9, ze_9, es_9, u_10, ag_10, sz_10, by_10, ze_10, es_10, u_26, ag_26, sz_26, by_26, ze_26, es_26, u_27, ag_27, sz_27, by_27, ze_27, es_27, u_40, ag_40, sz_40, by_40, ze_40, es_40, u_53, ag_53, sz_53, by_53, ze_53, es_53, u_55, f_55_0, f_55_1, f_55_2, f_55_3, f_55_4, f_55_5, f_55_6, f_55_7, f_55_8, ag_55, sz_55, by_55, ze_55, pl_55, es_55, u_57, ag_57, sz_57, by_57, ze_57, es_57, u_63, f_63_0, f_63_1, f_63_2, f_63_3, f_63_4, f_63_5, f_63_6, f_63_7, f_63_8, f_63_9, f_63_10, ag_63, sz_63, by_63, ze_63, pl_63, es_63, u_64, ag_64, sz_64, by_64, ze_64, es_64, ↓AW_loop, cv_bs u_9 u_40 u8_5, cv_bs u_10 u_40 u8_5, cv_ss u_40 u8_5]
  refine (find_q m id a hl).use' fun g => ?_
  obtain ⟨b, hib, hbb⟩ := a.idb hs
  have hbX := fun X => blkA_app X hbb
  have htX := fun X => blkA_app X a.top
  have hbl := blkA_lt hbb
  have hmem := List.mem_of_getElem? hib
  have hne := a.ne hib
  rw [hf, findV_at hib]
  have hmin : foldA min2A (Value.int .i64 (most : Int)) [.int .i64 (s.inn.length : Int)] = some (.int .i64 ((min most s.inn.length : Nat) : Int)) := by
    simp only [foldA, min2A]; congr 2; split <;> omega
  have hm0 : ¬ (most : Int) < 0 := by omega
  obtain ⟨n, hn⟩ : ∃ n, min most s.inn.length = n := ⟨_, rfl⟩
  rw [hn] at hmin ⊢
  have hnl : n ≤ s.inn.length := by omega
  have hadd : (s.taken : Int) + (n : Int) = ((s.taken + n : Nat) : Int) := by omega
  have hmul : (2 : Int) * ((s.taken + n : Nat) : Int) = ((2 * (s.taken + n) : Nat) : Int) := by omega
  have htX2 : ∀ Z X, blkA (h.set b Z ++ X) p = some ⟨muxC m (.slice (slA sb) ids.length ids.length), 9, false⟩ := fun Z X => by
    rw [blk_setN (Ne.symm hne)]; exact htX X
  unfold readM
  by_cases c1 : m.window ≤ 2 * (s.taken + n)
  · have c1' : (m.window : Int) ≤ ((2 * (s.taken + n) : Nat) : Int) := by omega
    cases hov : s.over with
    | true =>
      rw [if_neg (fun h => by have := h.2.1; rw [hov] at this; cases this)]
      simp -dsimp -implicitDefEqProofs (disch := first | omega | (simp only [stT, u_1, ag_1, sz_1, by_1, ze_1, es_1, u_2, ag_2, sz_2, by_2, ze_2, es_2, u_3, ag_3, sz_3, by_3, ze_3, es_3, u_4, ag_4, sz_4, by_4, ze_4, bo_4, es_4, u_5, ag_5, sz_5, by_5, ze_5, u8_5, es_5, u_6, ag_6, sz_6, by_6, ze_6, u8_6, es_6, u_8, f_8_0, f_8_1, f_8_2, f_8_3, ag_8, sz_8, by_8, ze_8, pl_8, es_8, u_9, ag_9, sz_9, by_9, ze_9, es_9, u_10, ag_10, sz_10, by_10, ze_10, es_10, u_26, ag_26, sz_26, by_26, ze_26, es_26, u_27, ag_27, sz_27, by_27, ze_27, es_27, u_40, ag_40, sz_40, by_40, ze_40, es_40, u_53, ag_53, sz_53, by_53, ze_53, es_53, u_55, f_55_0, f_55_1, f_55_2, f_55_3, f_55_4, f_55_5, f_55_6, f_55_7, f_55_8, ag_55, sz_55, by_55, ze_55, pl_55, es_55, u_57, ag_57, sz_57, by_57, ze_57, es_57, u_63, f_63_0, f_63_1, f_63_2, f_63_3, f_63_4, f_63_5, f_63_6, f_63_7, f_63_8, f_63_9, f_63_10, ag_63, sz_63, by_63, ze_63, pl_63, es_63, u_64, ag_64, sz_64, by_64, ze_64, es_64]; done) | (simp only [List.append_assoc, List.cons_append, List.nil_append, pre_n, pre_c, pre_a, pre_g, pre_r]; done) | (simp only [List.length_set]; done) | (simp only [List.length_set]; omega) | assumption | decide +kernel | fail) only [↓RP, RQ, isConstA, Nat.reduceEqDiff, Nat.reduceLT, Nat.reduceAdd, Int.reduceNeg, Int.reduceLT, Int.reduceLE, Int.reduceToNat, Int.reduceEq, ↓reduceIte, ite_true, ite_false, Option.toList, Nat.reduceMul, Nat.reduceSub, Nat.reduceLeDiff, ne_eq, eq_self, u_1, ag_1, sz_1, by_1, ze_1, es_1, u_2, ag_2, sz_2, by_2, ze_2, es_2, u_3, ag_3, sz_3, by_3, ze_3, es_3, u_4, ag_4, sz_4, by_4, ze_4, bo_4, es_4, u_5, ag_5, sz_5, by_5, ze_5, u8_5, es_5, u_6, ag_6, sz_6, by_6, ze_6, u8_6, es_6, u_8, f_8_0, f_8_1, f_8_2, f_8_3, ag_8, sz_8, by_8, ze_8, pl_8, es_8, u_9, ag_9, sz_9, by_9, ze_9, es_9, u_10, ag_10, sz_10, by_10, ze_10, es_10, u_26, ag_26, sz_26, by_26, ze_26, es_26, u_27, ag_27, sz_27, by_27, ze_27, es_27, u_40, ag_40, sz_40, by_40, ze_40, es_40, u_53, ag_53, sz_53, by_53, ze_53, es_53, u_55, f_55_0, f_55_1, f_55_2, f_55_3, f_55_4, f_55_5, f_55_6, f_55_7, f_55_8, ag_55, sz_55, by_55, ze_55, pl_55, es_55, u_57, ag_57, sz_57, by_57, ze_57, es_57, u_63, f_63_0, f_63_1, f_63_2, f_63_3, f_63_4, f_63_5, f_63_6, f_63_7, f_63_8, f_63_9, f_63_10, ag_63, sz_63, by_63, ze_63, pl_63, es_63, u_64, ag_64, sz_64, by_64, ze_64, es_64, ↓AW_loop, cv_bs u_9 u_40 u8_5, cv_bs u_10 u_40 u8_5, cv_ss u_40 u8_5, hbX, htX2, strmC, muxC, ptrC, hm0, hmin, hadd, hmul, c1', hov, GW_u]
      refine ⟨by omega, by omega, by decide +kernel, ?_⟩
      have a2 := (a.setStr hib { s with inn := s.inn.drop n, taken := s.taken + n }).app g
      simp only [strmC, hov] at a2
      exact ⟨a2, ((Upd.refl h (foot p sb ids)).set (by simp [foot, hmem])).more g⟩
    | false =>
      cases hre : s.reset with
      | true =>
        rw [if_neg (fun h => by have := h.2.2; rw [hre] at this; cases this)]
        simp -dsimp -implicitDefEqProofs (disch := first | omega | (simp only [stT, u_1, ag_1, sz_1, by_1, ze_1, es_1, u_2, ag_2, sz_2, by_2, ze_2, es_2, u_3, ag_3, sz_3, by_3, ze_3, es_3, u_4, ag_4, sz_4, by_4, ze_4, bo_4, es_4, u_5, ag_5, sz_5, by_5, ze_5, u8_5, es_5, u_6, ag_6, sz_6, by_6, ze_6, u8_6, es_6, u_8, f_8_0, f_8_1, f_8_2, f_8_3, ag_8, sz_8, by_8, ze_8, pl_8, es_8, u_9, ag_9, sz_9, by_9, ze_9, es_9, u_10, ag_10, sz_10, by_10, ze_10, es_10, u_26, ag_26, sz_26, by_26, ze_26, es_26, u_27, ag_27, sz_27, by_27, ze_27, es_27, u_40, ag_40, sz_40, by_40, ze_40, es_40, u_53, ag_53, sz_53, by_53, ze_53, es_53, u_55, f_55_0, f_55_1, f_55_2, f_55_3, f_55_4, f_55_5, f_55_6, f_55_7, f_55_8, ag_55, sz_55, by_55, ze_55, pl_55, es_55, u_57, ag_57, sz_57, by_57, ze_57, es_57, u_63, f_63_0, f_63_1, f_63_2, f_63_3, f_63_4, f_63_5, f_63_6, f_63_7, f_63_8, f_63_9, f_63_10, ag_63, sz_63, by_63, ze_63, pl_63, es_63, u_64, ag_64, sz_64, by_64, ze_64, es_64]; done) | (simp only [List.append_assoc, List.cons_append, List.nil_append, pre_n, pre_c, pre_a, pre_g, pre_r]; done) | (simp only [List.length_set]; done) | (simp only [List.length_set]; omega) | assumption | decide +kernel | fail) only [↓RP, RQ, isConstA, Nat.reduceEqDiff, Nat.reduceLT, Nat.reduceAdd, Int.reduceNeg, Int.reduceLT, Int.reduceLE, Int.reduceToNat, Int.reduceEq, ↓reduceIte, ite_true, ite_false, Option.toList, Nat.reduceMul, Nat.reduceSub, Nat.reduceLeDiff, ne_eq, eq_self, u_1, ag_1, sz_1, by_1, ze_1, es_1, u_2, ag_2, sz_2, by_2, ze_2, es_2, u_3, ag_3, sz_3, by_3, ze_3, es_3, u_4, ag_4, sz_4, by_4, ze_4, bo_4, es_4, u_5, ag_5, sz_5, by_5, ze_5, u8_5, es_5, u_6, ag_6, sz_6, by_6, ze_6, u8_6, es_6, u_8, f_8_0, f_8_1, f_8_2, f_8_3, ag_8, sz_8, by_8, ze_8, pl_8, es_8, u_9, ag_9, sz_9, by_9, ze_9, es_9, u_10, ag_10, sz_10, by_10, ze_10, es_10, u_26, ag_26, sz_26, by_26, ze_26, es_26, u_27, ag_27, sz_27, by_27, ze_27, es_27, u_40, ag_40, sz_40, by_40, ze_40, es_40, u_53, ag_53, sz_53, by_53, ze_53, es_53, u_55, f_55_0, f_55_1, f_55_2, f_55_3, f_55_4, f_55_5, f_55_6, f_55_7, f_55_8, ag_55, sz_55, by_55, ze_55, pl_55, es_55, u_57, ag_57, sz_57, by_57, ze_57, es_57, u_63, f_63_0, f_63_1, f_63_2, f_63_3, f_63_4, f_63_5, f_63_6, f_63_7, f_63_8, f_63_9, f_63_10, ag_63, sz_63, by_63, ze_63, pl_63, es_63, u_64, ag_64, sz_64, by_64, ze_64, es_64, ↓AW_loop, cv_bs u_9 u_40 u8_5, cv_bs u_10 u_40 u8_5, cv_ss u_40 u8_5, hbX, htX2, strmC, muxC, ptrC, hm0, hmin, hadd, hmul, c1', hov, hre, GW_u]
        refine ⟨by omega, by omega, by decide +kernel, ?_⟩
        have a2 := (a.setStr hib { s with inn := s.inn.drop n, taken := s.taken + n }).app g
        simp only [strmC, hov, hre] at a2
        exact ⟨a2, ((Upd.refl h (foot p sb ids)).set (by simp [foot, hmem])).more g⟩
      | false =>
        rw [if_pos ⟨c1, hov, hre⟩]
        have es : strOf [.int .u8 ((UInt8.ofNat ((s.taken + n) / 256)).toNat : Int), .int .u8 ((UInt8.ofNat (s.taken + n)).toNat : Int)] = some [UInt8.ofNat ((s.taken + n) / 256), UInt8.ofNat (s.taken + n)] := strOf_map [UInt8.ofNat ((s.taken + n) / 256), UInt8.ofNat (s.taken + n)]
        simp -dsimp -implicitDefEqProofs (disch := first | omega | (simp only [stT, u_1, ag_1, sz_1, by_1, ze_1, es_1, u_2, ag_2, sz_2, by_2, ze_2, es_2, u_3, ag_3, sz_3, by_3, ze_3, es_3, u_4, ag_4, sz_4, by_4, ze_4, bo_4, es_4, u_5, ag_5, sz_5, by_5, ze_5, u8_5, es_5, u_6, ag_6, sz_6, by_6, ze_6, u8_6, es_6, u_8, f_8_0, f_8_1, f_8_2, f_8_3, ag_8, sz_8, by_8, ze_8, pl_8, es_8, u_9, ag_9, sz_9, by_9, ze_9, es_9, u_10, ag_10, sz_10, by_10, ze_10, es_10, u_26, ag_26, sz_26, by_26, ze_26, es_26, u_27, ag_27, sz_27, by_27, ze_27, es_27, u_40, ag_40, sz_40, by_40, ze_40, es_40, u_53, ag_53, sz_53, by_53, ze_53, es_53, u_55, f_55_0, f_55_1, f_55_2, f_55_3, f_55_4, f_55_5, f_55_6, f_55_7, f_55_8, ag_55, sz_55, by_55, ze_55, pl_55, es_55, u_57, ag_57, sz_57, by_57, ze_57, es_57, u_63, f_63_0, f_63_1, f_63_2, f_63_3, f_63_4, f_63_5, f_63_6, f_63_7, f_63_8, f_63_9, f_63_10, ag_63, sz_63, by_63, ze_63, pl_63, es_63, u_64, ag_64, sz_64, by_64, ze_64, es_64]; done) | (simp only [List.append_assoc, List.cons_append, List.nil_append, pre_n, pre_c, pre_a, pre_g, pre_r]; done) | (simp only [List.length_set]; done) | (simp only [List.length_set]; omega) | assumption | decide +kernel | fail) only [↓RP, RQ, isConstA, Nat.reduceEqDiff, Nat.reduceLT, Nat.reduceAdd, Int.reduceNeg, Int.reduceLT, Int.reduceLE, Int.reduceToNat, Int.reduceEq, ↓reduceIte, ite_true, ite_false, Option.toList, Nat.reduceMul, Nat.reduceSub, Nat.reduceLeDiff, ne_eq, eq_self, u_1, ag_1, sz_1, by_1, ze_1, es_1, u_2, ag_2, sz_2, by_2, ze_2, es_2, u_3, ag_3, sz_3, by_3, ze_3, es_3, u_4, ag_4, sz_4, by_4, ze_4, bo_4, es_4, u_5, ag_5, sz_5, by_5, ze_5, u8_5, es_5, u_6, ag_6, sz_6, by_6, ze_6, u8_6, es_6, u_8, f_8_0, f_8_1, f_8_2, f_8_3, ag_8, sz_8, by_8, ze_8, pl_8, es_8, u_9, ag_9, sz_9, by_9, ze_9, es_9, u_10, ag_10, sz_10, by_10, ze_10, es_10, u_26, ag_26, sz_26, by_26, ze_26, es_26, u_27, ag_27, sz_27, by_27, ze_27, es_27, u_40, ag_40, sz_40, by_40, ze_40, es_40, u_53, ag_53, sz_53, by_53, ze_53, es_53, u_55, f_55_0, f_55_1, f_55_2, f_55_3, f_55_4, f_55_5, f_55_6, f_55_7, f_55_8, ag_55, sz_55, by_55, ze_55, pl_55, es_55, u_57, ag_57, sz_57, by_57, ze_57, es_57, u_63, f_63_0, f_63_1, f_63_2, f_63_3, f_63_4, f_63_5, f_63_6, f_63_7, f_63_8, f_63_9, f_63_10, ag_63, sz_63, by_63, ze_63, pl_63, es_63, u_64, ag_64, sz_64, by_64, ze_64, es_64, ↓AW_loop, cv_bs u_9 u_40 u8_5, cv_bs u_10 u_40 u8_5, cv_ss u_40 u8_5, hbX, htX2, strmC, muxC, ptrC, hm0, hmin, hadd, hmul, c1', hov, hre, hb, GW_u, wrap8N, es]
        refine ⟨by omega, by omega, by decide +kernel, by decide +kernel, ?_⟩
        refine (frame_q 5 id [UInt8.ofNat ((s.taken + n) / 256), UInt8.ofNat (s.taken + n)] (by simp) _).use' fun g2 => ?_
        have hpl := a.lt
        have q1 : ∀ Z W Y, blkA ((h.set b Z).set p W ++ Y) b = blkA (h.set b Z ++ Y) b := fun Z W Y => by rw [blk_setN hne]
        have q2 : ∀ Z K Y, blkA ((h.set b Z).set p (some (.cells K)) ++ Y) p = some K := fun Z K Y => by rw [blk_setB (by rw [List.length_set]; exact hpl)]
        have q3 : ∀ K Y, blkA (h.set b (some (.cells K)) ++ Y) b = some K := fun K Y => by rw [blk_setB hbl]
        refine DQ_fx1 (t := 9) (u := 83) (v := .pointer (some ⟨p, 4, none⟩)) (by kernel_rfl) (by simp -dsimp -implicitDefEqProofs (disch := first | omega | (simp only [stT, u_1, ag_1, sz_1, by_1, ze_1, es_1, u_2, ag_2, sz_2, by_2, ze_2, es_2, u_3, ag_3, sz_3, by_3, ze_3, es_3, u_4, ag_4, sz_4, by_4, ze_4, bo_4, es_4, u_5, ag_5, sz_5, by_5, ze_5, u8_5, es_5, u_6, ag_6, sz_6, by_6, ze_6, u8_6, es_6, u_8, f_8_0, f_8_1, f_8_2, f_8_3, ag_8, sz_8, by_8, ze_8, pl_8, es_8, u_9, ag_9, sz_9, by_9, ze_9, es_9, u_10, ag_10, sz_10, by_10, ze_10, es_10, u_26, ag_26, sz_26, by_26, ze_26, es_26, u_27, ag_27, sz_27, by_27, ze_27, es_27, u_40, ag_40, sz_40, by_40, ze_40, es_40, u_53, ag_53, sz_53, by_53, ze_53, es_53, u_55, f_55_0, f_55_1, f_55_2, f_55_3, f_55_4, f_55_5, f_55_6, f_55_7, f_55_8, ag_55, sz_55, by_55, ze_55, pl_55, es_55, u_57, ag_57, sz_57, by_57, ze_57, es_57, u_63, f_63_0, f_63_1, f_63_2, f_63_3, f_63_4, f_63_5, f_63_6, f_63_7, f_63_8, f_63_9, f_63_10, ag_63, sz_63, by_63, ze_63, pl_63, es_63, u_64, ag_64, sz_64, by_64, ze_64, es_64]; done) | (simp only [List.append_assoc, List.cons_append, List.nil_append, pre_n, pre_c, pre_a, pre_g, pre_r]; done) | (simp only [List.length_set]; done) | (simp only [List.length_set]; omega) | assumption | decide +kernel | fail) only [↓RP, RQ, isConstA, Nat.reduceEqDiff, Nat.reduceLT, Nat.reduceAdd, Int.reduceNeg, Int.reduceLT, Int.reduceLE, Int.reduceToNat, Int.reduceEq, ↓reduceIte, ite_true, ite_false, Option.toList, Nat.reduceMul, Nat.reduceSub, Nat.reduceLeDiff, ne_eq, eq_self, u_1, ag_1, sz_1, by_1, ze_1, es_1, u_2, ag_2, sz_2, by_2, ze_2, es_2, u_3, ag_3, sz_3, by_3, ze_3, es_3, u_4, ag_4, sz_4, by_4, ze_4, bo_4, es_4, u_5, ag_5, sz_5, by_5, ze_5, u8_5, es_5, u_6, ag_6, sz_6, by_6, ze_6, u8_6, es_6, u_8, f_8_0, f_8_1, f_8_2, f_8_3, ag_8, sz_8, by_8, ze_8, pl_8, es_8, u_9, ag_9, sz_9, by_9, ze_9, es_9, u_10, ag_10, sz_10, by_10, ze_10, es_10, u_26, ag_26, sz_26, by_26, ze_26, es_26, u_27, ag_27, sz_27, by_27, ze_27, es_27, u_40, ag_40, sz_40, by_40, ze_40, es_40, u_53, ag_53, sz_53, by_53, ze_53, es_53, u_55, f_55_0, f_55_1, f_55_2, f_55_3, f_55_4, f_55_5, f_55_6, f_55_7, f_55_8, ag_55, sz_55, by_55, ze_55, pl_55, es_55, u_57, ag_57, sz_57, by_57, ze_57, es_57, u_63, f_63_0, f_63_1, f_63_2, f_63_3, f_63_4, f_63_5, f_63_6, f_63_7, f_63_8, f_63_9, f_63_10, ag_63, sz_63, by_63, ze_63, pl_63, es_63, u_64, ag_64, sz_64, by_64, ze_64, es_64, ↓AW_loop, cv_bs u_9 u_40 u8_5, cv_bs u_10 u_40 u8_5, cv_ss u_40 u8_5]) ?_ ?_
        · rw [loadA_eq, loadA_eq, htX2, List.append_assoc, htX2]
        · simp -dsimp -implicitDefEqProofs (disch := first | omega | (simp only [stT, u_1, ag_1, sz_1, by_1, ze_1, es_1, u_2, ag_2, sz_2, by_2, ze_2, es_2, u_3, ag_3, sz_3, by_3, ze_3, es_3, u_4, ag_4, sz_4, by_4, ze_4, bo_4, es_4, u_5, ag_5, sz_5, by_5, ze_5, u8_5, es_5, u_6, ag_6, sz_6, by_6, ze_6, u8_6, es_6, u_8, f_8_0, f_8_1, f_8_2, f_8_3, ag_8, sz_8, by_8, ze_8, pl_8, es_8, u_9, ag_9, sz_9, by_9, ze_9, es_9, u_10, ag_10, sz_10, by_10, ze_10, es_10, u_26, ag_26, sz_26, by_26, ze_26, es_26, u_27, ag_27, sz_27, by_27, ze_27, es_27, u_40, ag_40, sz_40, by_40, ze_40, es_40, u_53, ag_53, sz_53, by_53, ze_53, es_53, u_55, f_55_0, f_55_1, f_55_2, f_55_3, f_55_4, f_55_5, f_55_6, f_55_7, f_55_8, ag_55, sz_55, by_55, ze_55, pl_55, es_55, u_57, ag_57, sz_57, by_57, ze_57, es_57, u_63, f_63_0, f_63_1, f_63_2, f_63_3, f_63_4, f_63_5, f_63_6, f_63_7, f_63_8, f_63_9, f_63_10, ag_63, sz_63, by_63, ze_63, pl_63, es_63, u_64, ag_64, sz_64, by_64, ze_64, es_64]; done) | (simp only [List.append_assoc, List.cons_append, List.nil_append, pre_n, pre_c, pre_a, pre_g, pre_r]; done) | (simp only [List.length_set]; done) | (simp only [List.length_set]; omega) | assumption | decide +kernel | fail) only [↓RP, RQ, isConstA, Nat.reduceEqDiff, Nat.reduceLT, Nat.reduceAdd, Int.reduceNeg, Int.reduceLT, Int.reduceLE, Int.reduceToNat, Int.reduceEq, ↓reduceIte, ite_true, ite_false, Option.toList, Nat.reduceMul, Nat.reduceSub, Nat.reduceLeDiff, ne_eq, eq_self, u_1, ag_1, sz_1, by_1, ze_1, es_1, u_2, ag_2, sz_2, by_2, ze_2, es_2, u_3, ag_3, sz_3, by_3, ze_3, es_3, u_4, ag_4, sz_4, by_4, ze_4, bo_4, es_4, u_5, ag_5, sz_5, by_5, ze_5, u8_5, es_5, u_6, ag_6, sz_6, by_6, ze_6, u8_6, es_6, u_8, f_8_0, f_8_1, f_8_2, f_8_3, ag_8, sz_8, by_8, ze_8, pl_8, es_8, u_9, ag_9, sz_9, by_9, ze_9, es_9, u_10, ag_10, sz_10, by_10, ze_10, es_10, u_26, ag_26, sz_26, by_26, ze_26, es_26, u_27, ag_27, sz_27, by_27, ze_27, es_27, u_40, ag_40, sz_40, by_40, ze_40, es_40, u_53, ag_53, sz_53, by_53, ze_53, es_53, u_55, f_55_0, f_55_1, f_55_2, f_55_3, f_55_4, f_55_5, f_55_6, f_55_7, f_55_8, ag_55, sz_55, by_55, ze_55, pl_55, es_55, u_57, ag_57, sz_57, by_57, ze_57, es_57, u_63, f_63_0, f_63_1, f_63_2, f_63_3, f_63_4, f_63_5, f_63_6, f_63_7, f_63_8, f_63_9, f_63_10, ag_63, sz_63, by_63, ze_63, pl_63, es_63, u_64, ag_64, sz_64, by_64, ze_64, es_64, ↓AW_loop, cv_bs u_9 u_40 u8_5, cv_bs u_10 u_40 u8_5, cv_ss u_40 u8_5, htX2, q1, q2, q3, strmC, muxC, hadd]
          refine ⟨by rw [frameS_len]; simp; omega, by decide +kernel, ?_⟩
          have a1 := a.setStr hib { s with inn := s.inn.drop n, taken := s.taken + n }
          have a2 := a1.setTop (m' := { m with streams := m.streams.set i { s with inn := s.inn.drop n, taken := s.taken + n }, control := m.control ++ frameS 5 id [UInt8.ofNat ((s.taken + n) / 256), UInt8.ofNat (s.taken + n)] }) rfl
          have a3 := a2.setStr hib { s with inn := s.inn.drop n, taken := s.taken + n, room := s.room + (s.taken + n) }
          have a4 := a3.setStr hib { s with inn := s.inn.drop n, taken := 0, room := s.room + (s.taken + n) }
          simp only [List.set_set, strmC, muxC, hov, hre, hb] at a4
          simp only [hov, hre, hb]
          exact ⟨a4.app _, ((((Upd.refl h (foot p sb ids)).set (by simp [foot, hmem])).set (by simp [foot])).set (by simp [foot, hmem])).more _⟩
  · have c1' : ¬ (m.window : Int) ≤ ((2 * (s.taken + n) : Nat) : Int) := by omega
    rw [if_neg (fun h => c1 h.1)]
    simp -dsimp -implicitDefEqProofs (disch := first | omega | (simp only [stT, u_1, ag_1, sz_1, by_1, ze_1, es_1, u_2, ag_2, sz_2, by_2, ze_2, es_2, u_3, ag_3, sz_3, by_3, ze_3, es_3, u_4, ag_4, sz_4, by_4, ze_4, bo_4, es_4, u_5, ag_5, sz_5, by_5, ze_5, u8_5, es_5, u_6, ag_6, sz_6, by_6, ze_6, u8_6, es_6, u_8, f_8_0, f_8_1, f_8_2, f_8_3, ag_8, sz_8, by_8, ze_8, pl_8, es_8, u_9, ag_9, sz_9, by_9, ze_9, es_9, u_10, ag_10, sz_10, by_10, ze_10, es_10, u_26, ag_26, sz_26, by_26, ze_26, es_26, u_27, ag_27, sz_27, by_27, ze_27, es_27, u_40, ag_40, sz_40, by_40, ze_40, es_40, u_53, ag_53, sz_53, by_53, ze_53, es_53, u_55, f_55_0, f_55_1, f_55_2, f_55_3, f_55_4, f_55_5, f_55_6, f_55_7, f_55_8, ag_55, sz_55, by_55, ze_55, pl_55, es_55, u_57, ag_57, sz_57, by_57, ze_57, es_57, u_63, f_63_0, f_63_1, f_63_2, f_63_3, f_63_4, f_63_5, f_63_6, f_63_7, f_63_8, f_63_9, f_63_10, ag_63, sz_63, by_63, ze_63, pl_63, es_63, u_64, ag_64, sz_64, by_64, ze_64, es_64]; done) | (simp only [List.append_assoc, List.cons_append, List.nil_append, pre_n, pre_c, pre_a, pre_g, pre_r]; done) | (simp only [List.length_set]; done) | (simp only [List.length_set]; omega) | assumption | decide +kernel | fail) only [↓RP, RQ, isConstA, Nat.reduceEqDiff, Nat.reduceLT, Nat.reduceAdd, Int.reduceNeg, Int.reduceLT, Int.reduceLE, Int.reduceToNat, Int.reduceEq, ↓reduceIte, ite_true, ite_false, Option.toList, Nat.reduceMul, Nat.reduceSub, Nat.reduceLeDiff, ne_eq, eq_self, u_1, ag_1, sz_1, by_1, ze_1, es_1, u_2, ag_2, sz_2, by_2, ze_2, es_2, u_3, ag_3, sz_3, by_3, ze_3, es_3, u_4, ag_4, sz_4, by_4, ze_4, bo_4, es_4, u_5, ag_5, sz_5, by_5, ze_5, u8_5, es_5, u_6, ag_6, sz_6, by_6, ze_6, u8_6, es_6, u_8, f_8_0, f_8_1, f_8_2, f_8_3, ag_8, sz_8, by_8, ze_8, pl_8, es_8, u_9, ag_9, sz_9, by_9, ze_9, es_9, u_10, ag_10, sz_10, by_10, ze_10, es_10, u_26, ag_26, sz_26, by_26, ze_26, es_26, u_27, ag_27, sz_27, by_27, ze_27, es_27, u_40, ag_40, sz_40, by_40, ze_40, es_40, u_53, ag_53, sz_53, by_53, ze_53, es_53, u_55, f_55_0, f_55_1, f_55_2, f_55_3, f_55_4, f_55_5, f_55_6, f_55_7, f_55_8, ag_55, sz_55, by_55, ze_55, pl_55, es_55, u_57, ag_57, sz_57, by_57, ze_57, es_57, u_63, f_63_0, f_63_1, f_63_2, f_63_3, f_63_4, f_63_5, f_63_6, f_63_7, f_63_8, f_63_9, f_63_10, ag_63, sz_63, by_63, ze_63, pl_63, es_63, u_64, ag_64, sz_64, by_64, ze_64, es_64, ↓AW_loop, cv_bs u_9 u_40 u8_5, cv_bs u_10 u_40 u8_5, cv_ss u_40 u8_5, hbX, htX2, strmC, muxC, ptrC, hm0, hmin, hadd, hmul, c1', GW_u]
    refine ⟨by omega, by omega, by decide +kernel, ?_⟩
    have a2 := (a.setStr hib { s with inn := s.inn.drop n, taken := s.taken + n }).app g
    simp only [strmC] at a2
    exact ⟨a2, ((Upd.refl h (foot p sb ids)).set (by simp [foot, hmem])).more g⟩
end Go.Abs
/- Mx16: the walk of Streams. Conditions: none. -/
set_option maxRecDepth 100000
set_option linter.unusedSimpArgs false
set_option linter.unusedVariables false
namespace Go.Abs
open Go.Proofs
/-- A slice that owns its block. -/
def OwnV (h : AHeap) (zb : Option Nat) (cs : List Value) : Prop := (zb = none ∧ cs = []) ∨ ∃ b, zb = some b ∧ blkA h b = some ⟨cs, 1, false⟩
theorem OwnV.same {h h' : AHeap} {zb : Option Nat} {cs : List Value} (o : OwnV h zb cs) (hs : ∀ b, zb = some b → h'[b]? = h[b]?) : OwnV h' zb cs := by
  rcases o with o | ⟨b, h1, h2⟩
  · exact .inl o
  · refine .inr ⟨b, h1, ?_⟩
    unfold blkA at h2 ⊢
    rw [hs b h1]; exact h2
theorem OwnV.upd {h h' : AHeap} {zb : Option Nat} {cs : List Value} {F F' : List Nat} (o : OwnV h zb cs) (u : Upd h h' F F') (hn : ∀ b, zb = some b → b ∉ F) : OwnV h' zb cs := by
  rcases o with o | ⟨b, h1, h2⟩
  · exact .inl o
  · exact .inr ⟨b, h1, u.blk (hn b h1) h2⟩
theorem OwnV.lt {h : AHeap} {zb : Option Nat} {cs : List Value} (o : OwnV h zb cs) {b : Nat} (hb : zb = some b) : b < h.length := by
  rcases o with ⟨h1, _⟩ | ⟨c, h1, h2⟩
  · rw [h1] at hb; cases hb
  · rw [h1] at hb; cases hb; exact blkA_lt h2
def idV (s : Strm) : Value := .int .i64 s.id
theorem allId : ∀ l : List Strm, (l.map idV).all oneCellA = true
  | [] => rfl
  | _ :: l => allId l
theorem take_map_all {α β : Type} (f : α → β) (l : List α) (n : Nat) (h : l.length ≤ n) : (l.map f).take n = l.map f := List.take_of_length_le (by rw [List.length_map]; exact h)
theorem streams_q (m : MuxS) {h : AHeap} {p : Nat} {sb : Option Nat} {ids : List Nat} (a : MuxAt h p sb ids m) (hl : ids.length < 2 ^ 40) :
    FW cx 19 [ptrC p] h fun v h' => ∃ zb, v = .slice (slA zb) m.streams.length m.streams.length ∧ OwnV h' zb (m.streams.map idV) ∧ (∀ b, zb = some b → h.length ≤ b) ∧ Upd h h' [] [] := by
  unfold ptrC
  refine FW_f Try.func19 rfl (by decide +kernel) ?_
  simp -dsimp -implicitDefEqProofs (disch := first | omega | (simp only [stT, u_0, ag_0, sz_0, by_0, ze_0, es_0, u_1, ag_1, sz_1, by_1, ze_1, es_1, u_3, ag_3, sz_3, by_3, ze_3, es_3, u_4, ag_4, sz_4, by_4, ze_4, bo_4, es_4, u_9, ag_9, sz_9, by_9, ze_9, es_9, u_23, ag_23, sz_23, by_23, ze_23, es_23, u_26, ag_26, sz_26, by_26, ze_26, es_26, u_53, ag_53, sz_53, by_53, ze_53, es_53, u_55, f_55_0, f_55_1, f_55_2, f_55_3, f_55_4, f_55_5, f_55_6, f_55_7, f_55_8, ag_55, sz_55, by_55, ze_55, pl_55, es_55, u_57, ag_57, sz_57, by_57, ze_57, es_57, u_63, f_63_0, f_63_1, f_63_2, f_63_3, f_63_4, f_63_5, f_63_6, f_63_7, f_63_8, f_63_9, f_63_10, ag_63, sz_63, by_63, ze_63, pl_63, es_63]; done) | (simp only [List.append_assoc, List.cons_append, List.nil_append, pre_n, pre_c, pre_a, pre_g, pre_r]; done) | (simp only [List.length_set]; done) | (simp only [List.length_set]; omega) | assumption | decide +kernel | fail) only [↓RP, RQ, isConstA, Nat.reduceEqDiff, Nat.reduceLT, Nat.reduceAdd, Int.reduceNeg, Int.reduceLT, Int.reduceLE, Int.reduceToNat, Int.reduceEq, ↓reduceIte, ite_true, ite_false, Option.toList, Nat.reduceMul, Nat.reduceSub, Nat.reduceLeDiff, ne_eq, eq_self, u_0, ag_0, sz_0, by_0, ze_0, es_0, u_1, ag_1, sz_1, by_1, ze_1, es_1, u_3, ag_3, sz_3, by_3, ze_3, es_3, u_4, ag_4, sz_4, by_4, ze_4, bo_4, es_4, u_9, ag_9, sz_9, by_9, ze_9, es_9, u_23, ag_23, sz_23, by_23, ze_23, es_23, u_26, ag_26, sz_26, by_26, ze_26, es_26, u_53, ag_53, sz_53, by_53, ze_53, es_53, u_55, f_55_0, f_55_1, f_55_2, f_55_3, f_55_4, f_55_5, f_55_6, f_55_7, f_55_8, ag_55, sz_55, by_55, ze_55, pl_55, es_55, u_57, ag_57, sz_57, by_57, ze_57, es_57, u_63, f_63_0, f_63_1, f_63_2, f_63_3, f_63_4, f_63_5, f_63_6, f_63_7, f_63_8, f_63_9, f_63_10, ag_63, sz_63, by_63, ze_63, pl_63, es_63, ↓AW_loop, a.top, muxC]
  have hlen := a.len
  refine LW_rule (fun n fr h' => ∃ (i : Nat) (zb : Option Nat), i ≤ ids.length ∧ n = ids.length - i ∧ fget fr 11 = .int .i64 i ∧ fget fr 10 = .int .i64 ids.length ∧ fget fr 9 = .slice (slA sb) ids.length ids.length ∧ fget fr 3 = .slice (slA zb) i i ∧ OwnV h' zb ((m.streams.take i).map idV) ∧ (∀ b, zb = some b → h.length ≤ b) ∧ Upd h h' [] []) ?_ ids.length _ _ ⟨0, none, by omega, rfl, ?_⟩
  · rintro n fr h' ⟨i, zb, hi, hn, f11, f10, f9, f3, ho, hz, hu⟩
    by_cases hlt : i < ids.length
    · obtain ⟨s, hss⟩ : ∃ s, m.streams[i]? = some s := ⟨_, List.getElem?_eq_getElem (by omega)⟩
      obtain ⟨b, hb⟩ : ∃ b, ids[i]? = some b := ⟨_, List.getElem?_eq_getElem hlt⟩
      have au := a.ext hu.toExt
      have htk : m.streams.take (i + 1) = m.streams.take i ++ [s] := by rw [List.take_add_one, hss]; rfl
      have hil : (m.streams.take i).length = i := by rw [List.length_take]; omega
      rcases au.sl with ⟨_, rfl⟩ | ⟨c, rfl, hc⟩
      · simp at hlt
      · have hlt' : (i : Int) < ids.length := by omega
        have hcX := fun X => blkA_app X hc
        have hbb := au.str i s b hss hb
        have hcell : (ids.map ptrC)[i]? = some (.pointer (some ⟨b, 0, none⟩)) := by rw [List.getElem?_map, hb]; rfl
        unfold slA at f9
        simp only [Option.map_some] at f9
        rcases ho with ⟨rfl, ho⟩ | ⟨zc, rfl, ho⟩
        · have hi0 : i = 0 := by
            have := congrArg List.length ho
            rw [List.length_map, hil] at this
            simpa using this
          subst hi0
          simp only [slA, Option.map_none] at f3
          have hlt0 : (0 : Int) < ids.length := by omega
          simp -dsimp -implicitDefEqProofs (disch := first | omega | (simp only [stT, u_0, ag_0, sz_0, by_0, ze_0, es_0, u_1, ag_1, sz_1, by_1, ze_1, es_1, u_3, ag_3, sz_3, by_3, ze_3, es_3, u_4, ag_4, sz_4, by_4, ze_4, bo_4, es_4, u_9, ag_9, sz_9, by_9, ze_9, es_9, u_23, ag_23, sz_23, by_23, ze_23, es_23, u_26, ag_26, sz_26, by_26, ze_26, es_26, u_53, ag_53, sz_53, by_53, ze_53, es_53, u_55, f_55_0, f_55_1, f_55_2, f_55_3, f_55_4, f_55_5, f_55_6, f_55_7, f_55_8, ag_55, sz_55, by_55, ze_55, pl_55, es_55, u_57, ag_57, sz_57, by_57, ze_57, es_57, u_63, f_63_0, f_63_1, f_63_2, f_63_3, f_63_4, f_63_5, f_63_6, f_63_7, f_63_8, f_63_9, f_63_10, ag_63, sz_63, by_63, ze_63, pl_63, es_63]; done) | (simp only [List.append_assoc, List.cons_append, List.nil_append, pre_n, pre_c, pre_a, pre_g, pre_r]; done) | (simp only [List.length_set]; done) | (simp only [List.length_set]; omega) | assumption | decide +kernel | fail) only [↓RP, RQ, isConstA, Nat.reduceEqDiff, Nat.reduceLT, Nat.reduceAdd, Int.reduceNeg, Int.reduceLT, Int.reduceLE, Int.reduceToNat, Int.reduceEq, ↓reduceIte, ite_true, ite_false, Option.toList, Nat.reduceMul, Nat.reduceSub, Nat.reduceLeDiff, ne_eq, eq_self, u_0, ag_0, sz_0, by_0, ze_0, es_0, u_1, ag_1, sz_1, by_1, ze_1, es_1, u_3, ag_3, sz_3, by_3, ze_3, es_3, u_4, ag_4, sz_4, by_4, ze_4, bo_4, es_4, u_9, ag_9, sz_9, by_9, ze_9, es_9, u_23, ag_23, sz_23, by_23, ze_23, es_23, u_26, ag_26, sz_26, by_26, ze_26, es_26, u_53, ag_53, sz_53, by_53, ze_53, es_53, u_55, f_55_0, f_55_1, f_55_2, f_55_3, f_55_4, f_55_5, f_55_6, f_55_7, f_55_8, ag_55, sz_55, by_55, ze_55, pl_55, es_55, u_57, ag_57, sz_57, by_57, ze_57, es_57, u_63, f_63_0, f_63_1, f_63_2, f_63_3, f_63_4, f_63_5, f_63_6, f_63_7, f_63_8, f_63_9, f_63_10, ag_63, sz_63, by_63, ze_63, pl_63, es_63, ↓AW_loop, f11, f10, f9, f3, hlt0, hc, hcell, hbb, strmC]
          refine ⟨ids.length - 1, by omega, 1, some (h'.length + 1), by omega, rfl, rfl, rfl, rfl, .inr ⟨_, rfl, ?_⟩, fun b hb => ?_, hu.more _⟩
          · rw [blk_atH rfl, htk]; rfl
          · cases hb; have := hu.len; omega
        · have htkA : ((m.streams.take i).map idV).take i = (m.streams.take i).map idV := take_map_all _ _ _ (by omega)
          have hzX := fun X => blkA_app X ho
          have hzl := blkA_lt ho
          simp only [slA, Option.map_some] at f3
          simp -dsimp -implicitDefEqProofs (disch := first | omega | (simp only [stT, u_0, ag_0, sz_0, by_0, ze_0, es_0, u_1, ag_1, sz_1, by_1, ze_1, es_1, u_3, ag_3, sz_3, by_3, ze_3, es_3, u_4, ag_4, sz_4, by_4, ze_4, bo_4, es_4, u_9, ag_9, sz_9, by_9, ze_9, es_9, u_23, ag_23, sz_23, by_23, ze_23, es_23, u_26, ag_26, sz_26, by_26, ze_26, es_26, u_53, ag_53, sz_53, by_53, ze_53, es_53, u_55, f_55_0, f_55_1, f_55_2, f_55_3, f_55_4, f_55_5, f_55_6, f_55_7, f_55_8, ag_55, sz_55, by_55, ze_55, pl_55, es_55, u_57, ag_57, sz_57, by_57, ze_57, es_57, u_63, f_63_0, f_63_1, f_63_2, f_63_3, f_63_4, f_63_5, f_63_6, f_63_7, f_63_8, f_63_9, f_63_10, ag_63, sz_63, by_63, ze_63, pl_63, es_63]; done) | (simp only [List.append_assoc, List.cons_append, List.nil_append, pre_n, pre_c, pre_a, pre_g, pre_r]; done) | (simp only [List.length_set]; done) | (simp only [List.length_set]; omega) | assumption | decide +kernel | fail) only [↓RP, RQ, isConstA, Nat.reduceEqDiff, Nat.reduceLT, Nat.reduceAdd, Int.reduceNeg, Int.reduceLT, Int.reduceLE, Int.reduceToNat, Int.reduceEq, ↓reduceIte, ite_true, ite_false, Option.toList, Nat.reduceMul, Nat.reduceSub, Nat.reduceLeDiff, ne_eq, eq_self, u_0, ag_0, sz_0, by_0, ze_0, es_0, u_1, ag_1, sz_1, by_1, ze_1, es_1, u_3, ag_3, sz_3, by_3, ze_3, es_3, u_4, ag_4, sz_4, by_4, ze_4, bo_4, es_4, u_9, ag_9, sz_9, by_9, ze_9, es_9, u_23, ag_23, sz_23, by_23, ze_23, es_23, u_26, ag_26, sz_26, by_26, ze_26, es_26, u_53, ag_53, sz_53, by_53, ze_53, es_53, u_55, f_55_0, f_55_1, f_55_2, f_55_3, f_55_4, f_55_5, f_55_6, f_55_7, f_55_8, ag_55, sz_55, by_55, ze_55, pl_55, es_55, u_57, ag_57, sz_57, by_57, ze_57, es_57, u_63, f_63_0, f_63_1, f_63_2, f_63_3, f_63_4, f_63_5, f_63_6, f_63_7, f_63_8, f_63_9, f_63_10, ag_63, sz_63, by_63, ze_63, pl_63, es_63, ↓AW_loop, f11, f10, f9, f3, hlt', hc, hcell, hbb, strmC, hzX]
          refine ⟨by omega, by omega, ids.length - (i + 1), by omega, i + 1, some (h'.length + 1), by omega, rfl, rfl, rfl, rfl, .inr ⟨_, rfl, ?_⟩, fun b hb => ?_, (hu.setNew (hz zc rfl)).more _⟩
          · rw [blk_atH (by rw [List.length_set]), htk, htkA, List.map_append]; rfl
          · cases hb; have := hu.len; omega
    · have hi2 : ¬ (i : Int) < ids.length := by omega
      simp -dsimp -implicitDefEqProofs (disch := first | omega | (simp only [stT, u_0, ag_0, sz_0, by_0, ze_0, es_0, u_1, ag_1, sz_1, by_1, ze_1, es_1, u_3, ag_3, sz_3, by_3, ze_3, es_3, u_4, ag_4, sz_4, by_4, ze_4, bo_4, es_4, u_9, ag_9, sz_9, by_9, ze_9, es_9, u_23, ag_23, sz_23, by_23, ze_23, es_23, u_26, ag_26, sz_26, by_26, ze_26, es_26, u_53, ag_53, sz_53, by_53, ze_53, es_53, u_55, f_55_0, f_55_1, f_55_2, f_55_3, f_55_4, f_55_5, f_55_6, f_55_7, f_55_8, ag_55, sz_55, by_55, ze_55, pl_55, es_55, u_57, ag_57, sz_57, by_57, ze_57, es_57, u_63, f_63_0, f_63_1, f_63_2, f_63_3, f_63_4, f_63_5, f_63_6, f_63_7, f_63_8, f_63_9, f_63_10, ag_63, sz_63, by_63, ze_63, pl_63, es_63]; done) | (simp only [List.append_assoc, List.cons_append, List.nil_append, pre_n, pre_c, pre_a, pre_g, pre_r]; done) | (simp only [List.length_set]; done) | (simp only [List.length_set]; omega) | assumption | decide +kernel | fail) only [↓RP, RQ, isConstA, Nat.reduceEqDiff, Nat.reduceLT, Nat.reduceAdd, Int.reduceNeg, Int.reduceLT, Int.reduceLE, Int.reduceToNat, Int.reduceEq, ↓reduceIte, ite_true, ite_false, Option.toList, Nat.reduceMul, Nat.reduceSub, Nat.reduceLeDiff, ne_eq, eq_self, u_0, ag_0, sz_0, by_0, ze_0, es_0, u_1, ag_1, sz_1, by_1, ze_1, es_1, u_3, ag_3, sz_3, by_3, ze_3, es_3, u_4, ag_4, sz_4, by_4, ze_4, bo_4, es_4, u_9, ag_9, sz_9, by_9, ze_9, es_9, u_23, ag_23, sz_23, by_23, ze_23, es_23, u_26, ag_26, sz_26, by_26, ze_26, es_26, u_53, ag_53, sz_53, by_53, ze_53, es_53, u_55, f_55_0, f_55_1, f_55_2, f_55_3, f_55_4, f_55_5, f_55_6, f_55_7, f_55_8, ag_55, sz_55, by_55, ze_55, pl_55, es_55, u_57, ag_57, sz_57, by_57, ze_57, es_57, u_63, f_63_0, f_63_1, f_63_2, f_63_3, f_63_4, f_63_5, f_63_6, f_63_7, f_63_8, f_63_9, f_63_10, ag_63, sz_63, by_63, ze_63, pl_63, es_63, ↓AW_loop, f11, f10, f3, hi2]
      rw [List.take_of_length_le (by omega)] at ho
      exact ⟨zb, by rw [show i = m.streams.length by omega], ho, hz, hu⟩
  · simp -dsimp -implicitDefEqProofs (disch := first | omega | (simp only [stT, u_0, ag_0, sz_0, by_0, ze_0, es_0, u_1, ag_1, sz_1, by_1, ze_1, es_1, u_3, ag_3, sz_3, by_3, ze_3, es_3, u_4, ag_4, sz_4, by_4, ze_4, bo_4, es_4, u_9, ag_9, sz_9, by_9, ze_9, es_9, u_23, ag_23, sz_23, by_23, ze_23, es_23, u_26, ag_26, sz_26, by_26, ze_26, es_26, u_53, ag_53, sz_53, by_53, ze_53, es_53, u_55, f_55_0, f_55_1, f_55_2, f_55_3, f_55_4, f_55_5, f_55_6, f_55_7, f_55_8, ag_55, sz_55, by_55, ze_55, pl_55, es_55, u_57, ag_57, sz_57, by_57, ze_57, es_57, u_63, f_63_0, f_63_1, f_63_2, f_63_3, f_63_4, f_63_5, f_63_6, f_63_7, f_63_8, f_63_9, f_63_10, ag_63, sz_63, by_63, ze_63, pl_63, es_63]; done) | (simp only [List.append_assoc, List.cons_append, List.nil_append, pre_n, pre_c, pre_a, pre_g, pre_r]; done) | (simp only [List.length_set]; done) | (simp only [List.length_set]; omega) | assumption | decide +kernel | fail) only [↓RP, RQ, isConstA, Nat.reduceEqDiff, Nat.reduceLT, Nat.reduceAdd, Int.reduceNeg, Int.reduceLT, Int.reduceLE, Int.reduceToNat, Int.reduceEq, ↓reduceIte, ite_true, ite_false, Option.toList, Nat.reduceMul, Nat.reduceSub, Nat.reduceLeDiff, ne_eq, eq_self, u_0, ag_0, sz_0, by_0, ze_0, es_0, u_1, ag_1, sz_1, by_1, ze_1, es_1, u_3, ag_3, sz_3, by_3, ze_3, es_3, u_4, ag_4, sz_4, by_4, ze_4, bo_4, es_4, u_9, ag_9, sz_9, by_9, ze_9, es_9, u_23, ag_23, sz_23, by_23, ze_23, es_23, u_26, ag_26, sz_26, by_26, ze_26, es_26, u_53, ag_53, sz_53, by_53, ze_53, es_53, u_55, f_55_0, f_55_1, f_55_2, f_55_3, f_55_4, f_55_5, f_55_6, f_55_7, f_55_8, ag_55, sz_55, by_55, ze_55, pl_55, es_55, u_57, ag_57, sz_57, by_57, ze_57, es_57, u_63, f_63_0, f_63_1, f_63_2, f_63_3, f_63_4, f_63_5, f_63_6, f_63_7, f_63_8, f_63_9, f_63_10, ag_63, sz_63, by_63, ze_63, pl_63, es_63, ↓AW_loop]
    exact ⟨rfl, .inl ⟨rfl, rfl⟩, fun b hb => (by cases hb), Upd.refl _ _⟩
end Go.Abs
