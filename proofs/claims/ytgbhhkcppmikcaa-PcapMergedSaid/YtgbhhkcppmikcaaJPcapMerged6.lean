/- PcapMerged, part 6 of 7: what the proof of the law rests on. Conditions: none. -/
import Derived.Test.YtgbhhkcppmikcaaJPcapMerged5
set_option linter.unusedSimpArgs false
set_option linter.unusedVariables false
/- Pm3: the walks of the library's stable sort: insertion. Conditions: none. -/
set_option maxRecDepth 100000
set_option linter.unusedSimpArgs false
set_option linter.unusedVariables false
namespace Go.Abs
open Go.Proofs Go.Abs.Srt
def cmpV : Value := .func (.func 19) #[] #[]
theorem swap_adj {α : Type} (Q R : List α) (x y : α) : ((Q ++ y :: x :: R).set (Q.length + 1) y).set Q.length x = Q ++ x :: y :: R := by
  have e : ∀ x y : α, Q ++ y :: x :: R = (Q ++ [y]) ++ x :: R := fun x y => by simp
  rw [e, set_mid (Q ++ [y]) R x y (Q.length + 1) (by simp), ← e, set_mid Q _ y x _ rfl]
theorem get_adj {α : Type} (Q R : List α) (x y : α) : (Q ++ y :: x :: R)[Q.length]? = some y ∧ (Q ++ y :: x :: R)[Q.length + 1]? = some x := by
  refine ⟨get_mid Q _ y _ rfl, ?_⟩
  have e : Q ++ y :: x :: R = (Q ++ [y]) ++ x :: R := by simp
  rw [e]; exact get_mid _ _ _ _ (by simp)
theorem insort_q (P L S : List El) {h : AHeap} {d z a b : Nat} (hd : RowAt h d (P ++ (L ++ S))) (ha : a = P.length) (hb : b = a + L.length) (hok : ∀ x, x ∈ L → okE x) (hl : (P ++ (L ++ S)).length < 2 ^ 40) :
    FW cx 25 [.slice (some ⟨d, 0, none⟩) (P ++ (L ++ S)).length z, .int .i64 a, .int .i64 b, cmpV] h fun v h' => v = .tuple #[] ∧ RowAt h' d (P ++ (isort keyE L ++ S)) ∧ Upd h h' [d] [d] := by
  refine FW_f Try.func25 rfl (by decide +kernel) ?_
  have hNl : P.length + (L.length + S.length) = (P ++ (L ++ S)).length := by simp only [List.length_append]
  obtain ⟨N, hN⟩ : ∃ N, (P ++ (L ++ S)).length = N := ⟨_, rfl⟩
  rw [hN] at hl hNl ⊢
  cases L with
  | nil =>
    have hab : ¬ (a : Int) + 1 < b := by simp only [List.length_nil] at hb; omega
    simp -dsimp -implicitDefEqProofs (disch := first | omega | (simp only [stT, u_3, ag_3, sz_3, by_3, ze_3, es_3, u_4, ag_4, sz_4, by_4, ze_4, bo_4, es_4, u_9, ag_9, sz_9, by_9, ze_9, es_9, u_22, ag_22, sz_22, by_22, ze_22, es_22, u_36, f_36_0, f_36_1, f_36_2, f_36_3, f_36_4, ag_36, sz_36, by_36, ze_36, pl_36, es_36, u_47, ag_47, sz_47, by_47, ze_47, es_47]; done) | (simp only [List.append_assoc, List.cons_append, List.nil_append, pre_n, pre_c, pre_a, pre_g, pre_r]; done) | (simp only [List.length_set]; done) | (simp only [List.length_set]; omega) | assumption | decide +kernel | fail) only [↓RP, RQ, isConstA, Nat.reduceEqDiff, Nat.reduceLT, Nat.reduceAdd, Int.reduceNeg, Int.reduceLT, Int.reduceLE, Int.reduceToNat, Int.reduceEq, ↓reduceIte, ite_true, ite_false, Option.toList, Nat.reduceMul, Nat.reduceSub, Nat.reduceLeDiff, ne_eq, eq_self, u_3, ag_3, sz_3, by_3, ze_3, es_3, u_4, ag_4, sz_4, by_4, ze_4, bo_4, es_4, u_9, ag_9, sz_9, by_9, ze_9, es_9, u_22, ag_22, sz_22, by_22, ze_22, es_22, u_36, f_36_0, f_36_1, f_36_2, f_36_3, f_36_4, ag_36, sz_36, by_36, ze_36, pl_36, es_36, u_47, ag_47, sz_47, by_47, ze_47, es_47, ↓AW_loop]
    refine LW_rule (fun n fr h' => fget fr 8 = .int .i64 ((a + 1 : Nat) : Int) ∧ fget fr 2 = .int .i64 b ∧ h' = h) ?_ 0 _ _ ⟨by congr 1, rfl, rfl⟩
    rintro n fr h' ⟨f8, f2, rfl⟩
    have hab' : ¬ ((a + 1 : Nat) : Int) < b := by omega
    simp -dsimp -implicitDefEqProofs (disch := first | omega | (simp only [stT, u_3, ag_3, sz_3, by_3, ze_3, es_3, u_4, ag_4, sz_4, by_4, ze_4, bo_4, es_4, u_9, ag_9, sz_9, by_9, ze_9, es_9, u_22, ag_22, sz_22, by_22, ze_22, es_22, u_36, f_36_0, f_36_1, f_36_2, f_36_3, f_36_4, ag_36, sz_36, by_36, ze_36, pl_36, es_36, u_47, ag_47, sz_47, by_47, ze_47, es_47]; done) | (simp only [List.append_assoc, List.cons_append, List.nil_append, pre_n, pre_c, pre_a, pre_g, pre_r]; done) | (simp only [List.length_set]; done) | (simp only [List.length_set]; omega) | assumption | decide +kernel | fail) only [↓RP, RQ, isConstA, Nat.reduceEqDiff, Nat.reduceLT, Nat.reduceAdd, Int.reduceNeg, Int.reduceLT, Int.reduceLE, Int.reduceToNat, Int.reduceEq, ↓reduceIte, ite_true, ite_false, Option.toList, Nat.reduceMul, Nat.reduceSub, Nat.reduceLeDiff, ne_eq, eq_self, u_3, ag_3, sz_3, by_3, ze_3, es_3, u_4, ag_4, sz_4, by_4, ze_4, bo_4, es_4, u_9, ag_9, sz_9, by_9, ze_9, es_9, u_22, ag_22, sz_22, by_22, ze_22, es_22, u_36, f_36_0, f_36_1, f_36_2, f_36_3, f_36_4, ag_36, sz_36, by_36, ze_36, pl_36, es_36, u_47, ag_47, sz_47, by_47, ze_47, es_47, ↓AW_loop, f8, f2, hab']
    exact ⟨hd, Upd.refl _ _⟩
  | cons x0 L0 =>
    have h1 : (a : Int) + 1 = ((a + 1 : Nat) : Int) := by omega
    simp -dsimp -implicitDefEqProofs (disch := first | omega | (simp only [stT, u_3, ag_3, sz_3, by_3, ze_3, es_3, u_4, ag_4, sz_4, by_4, ze_4, bo_4, es_4, u_9, ag_9, sz_9, by_9, ze_9, es_9, u_22, ag_22, sz_22, by_22, ze_22, es_22, u_36, f_36_0, f_36_1, f_36_2, f_36_3, f_36_4, ag_36, sz_36, by_36, ze_36, pl_36, es_36, u_47, ag_47, sz_47, by_47, ze_47, es_47]; done) | (simp only [List.append_assoc, List.cons_append, List.nil_append, pre_n, pre_c, pre_a, pre_g, pre_r]; done) | (simp only [List.length_set]; done) | (simp only [List.length_set]; omega) | assumption | decide +kernel | fail) only [↓RP, RQ, isConstA, Nat.reduceEqDiff, Nat.reduceLT, Nat.reduceAdd, Int.reduceNeg, Int.reduceLT, Int.reduceLE, Int.reduceToNat, Int.reduceEq, ↓reduceIte, ite_true, ite_false, Option.toList, Nat.reduceMul, Nat.reduceSub, Nat.reduceLeDiff, ne_eq, eq_self, u_3, ag_3, sz_3, by_3, ze_3, es_3, u_4, ag_4, sz_4, by_4, ze_4, bo_4, es_4, u_9, ag_9, sz_9, by_9, ze_9, es_9, u_22, ag_22, sz_22, by_22, ze_22, es_22, u_36, f_36_0, f_36_1, f_36_2, f_36_3, f_36_4, ag_36, sz_36, by_36, ze_36, pl_36, es_36, u_47, ag_47, sz_47, by_47, ze_47, es_47, ↓AW_loop, h1]
    refine LW_rule (fun n fr h' => ∃ (i : Nat) (L1 L2 : List El), L1 ++ L2 = x0 :: L0 ∧ i = a + L1.length ∧ n = L2.length ∧ fget fr 8 = .int .i64 i ∧ fget fr 0 = .slice (some ⟨d, 0, none⟩) N z ∧ fget fr 1 = .int .i64 a ∧ fget fr 2 = .int .i64 b ∧ fget fr 3 = cmpV ∧
        RowAt h' d (P ++ (isort keyE L1 ++ (L2 ++ S))) ∧ Upd h h' [d] [d]) ?_ L0.length _ _ ⟨a + 1, [x0], L0, rfl, rfl, rfl, ?_⟩
    · rintro n fr h' ⟨i, L1, L2, hL, hi, hn, f8, f0, f1, f2, f3, hr, hu⟩
      have hLl := congrArg List.length hL
      rw [List.length_append] at hLl
      cases L2 with
      | nil =>
        have hib : ¬ (i : Int) < b := by simp only [List.length_nil] at hLl; omega
        simp -dsimp -implicitDefEqProofs (disch := first | omega | (simp only [stT, u_3, ag_3, sz_3, by_3, ze_3, es_3, u_4, ag_4, sz_4, by_4, ze_4, bo_4, es_4, u_9, ag_9, sz_9, by_9, ze_9, es_9, u_22, ag_22, sz_22, by_22, ze_22, es_22, u_36, f_36_0, f_36_1, f_36_2, f_36_3, f_36_4, ag_36, sz_36, by_36, ze_36, pl_36, es_36, u_47, ag_47, sz_47, by_47, ze_47, es_47]; done) | (simp only [List.append_assoc, List.cons_append, List.nil_append, pre_n, pre_c, pre_a, pre_g, pre_r]; done) | (simp only [List.length_set]; done) | (simp only [List.length_set]; omega) | assumption | decide +kernel | fail) only [↓RP, RQ, isConstA, Nat.reduceEqDiff, Nat.reduceLT, Nat.reduceAdd, Int.reduceNeg, Int.reduceLT, Int.reduceLE, Int.reduceToNat, Int.reduceEq, ↓reduceIte, ite_true, ite_false, Option.toList, Nat.reduceMul, Nat.reduceSub, Nat.reduceLeDiff, ne_eq, eq_self, u_3, ag_3, sz_3, by_3, ze_3, es_3, u_4, ag_4, sz_4, by_4, ze_4, bo_4, es_4, u_9, ag_9, sz_9, by_9, ze_9, es_9, u_22, ag_22, sz_22, by_22, ze_22, es_22, u_36, f_36_0, f_36_1, f_36_2, f_36_3, f_36_4, ag_36, sz_36, by_36, ze_36, pl_36, es_36, u_47, ag_47, sz_47, by_47, ze_47, es_47, ↓AW_loop, f8, f0, f1, f2, f3, hib]
        rw [List.append_nil] at hL
        rw [hL, List.nil_append] at hr
        exact ⟨hr, hu⟩
      | cons x L2 =>
        simp only [List.length_cons] at hLl hn hb hNl
        have hib : (i : Int) < b := by omega
        simp -dsimp -implicitDefEqProofs (disch := first | omega | (simp only [stT, u_3, ag_3, sz_3, by_3, ze_3, es_3, u_4, ag_4, sz_4, by_4, ze_4, bo_4, es_4, u_9, ag_9, sz_9, by_9, ze_9, es_9, u_22, ag_22, sz_22, by_22, ze_22, es_22, u_36, f_36_0, f_36_1, f_36_2, f_36_3, f_36_4, ag_36, sz_36, by_36, ze_36, pl_36, es_36, u_47, ag_47, sz_47, by_47, ze_47, es_47]; done) | (simp only [List.append_assoc, List.cons_append, List.nil_append, pre_n, pre_c, pre_a, pre_g, pre_r]; done) | (simp only [List.length_set]; done) | (simp only [List.length_set]; omega) | assumption | decide +kernel | fail) only [↓RP, RQ, isConstA, Nat.reduceEqDiff, Nat.reduceLT, Nat.reduceAdd, Int.reduceNeg, Int.reduceLT, Int.reduceLE, Int.reduceToNat, Int.reduceEq, ↓reduceIte, ite_true, ite_false, Option.toList, Nat.reduceMul, Nat.reduceSub, Nat.reduceLeDiff, ne_eq, eq_self, u_3, ag_3, sz_3, by_3, ze_3, es_3, u_4, ag_4, sz_4, by_4, ze_4, bo_4, es_4, u_9, ag_9, sz_9, by_9, ze_9, es_9, u_22, ag_22, sz_22, by_22, ze_22, es_22, u_36, f_36_0, f_36_1, f_36_2, f_36_3, f_36_4, ag_36, sz_36, by_36, ze_36, pl_36, es_36, u_47, ag_47, sz_47, by_47, ze_47, es_47, ↓AW_loop, f8, f0, f1, f2, f3, hib]
        have hT := isort_snoc keyE L1 x
        have hsl := isort_length keyE L1
        have hoks : ∀ y, y ∈ isort keyE L1 → okE y := fun y hy => hok y (by rw [← hL]; simp [(isort_perm keyE L1).mem_iff.1 hy])
        have hokx : okE x := hok x (by rw [← hL]; simp)
        obtain ⟨T, hTT⟩ : ∃ T, insR keyE (isort keyE L1) x = T := ⟨_, rfl⟩
        rw [hTT] at hT
        refine LW_rule (fun n fr h' => ∃ (j : Nat) (s t : List El), n = s.length ∧ j = a + s.length ∧ s.length + t.length = L1.length ∧ (∀ y, y ∈ s → okE y) ∧ fget fr 9 = .int .i64 j ∧ fget fr 8 = .int .i64 i ∧ fget fr 0 = .slice (some ⟨d, 0, none⟩) N z ∧ fget fr 1 = .int .i64 a ∧ fget fr 2 = .int .i64 b ∧ fget fr 3 = cmpV ∧
            RowAt h' d (P ++ (s ++ x :: (t ++ (L2 ++ S)))) ∧ insR keyE s x ++ t = T ∧ Upd h h' [d] [d]) ?_ (isort keyE L1).length _ _ ⟨i, isort keyE L1, [], rfl, by omega, by simp only [List.length_nil]; omega, hoks, ?_⟩
        · rintro n2 fr h2 ⟨j, s, t, hn2, hj, hst, hoks2, f9, f8, f0, f1, f2, f3, hr2, hins, hu2⟩
          by_cases hs : s = []
          · subst hs
            have hja : ¬ (a : Int) < j := by simp only [List.length_nil] at hj; omega
            simp -dsimp -implicitDefEqProofs (disch := first | omega | (simp only [stT, u_3, ag_3, sz_3, by_3, ze_3, es_3, u_4, ag_4, sz_4, by_4, ze_4, bo_4, es_4, u_9, ag_9, sz_9, by_9, ze_9, es_9, u_22, ag_22, sz_22, by_22, ze_22, es_22, u_36, f_36_0, f_36_1, f_36_2, f_36_3, f_36_4, ag_36, sz_36, by_36, ze_36, pl_36, es_36, u_47, ag_47, sz_47, by_47, ze_47, es_47]; done) | (simp only [List.append_assoc, List.cons_append, List.nil_append, pre_n, pre_c, pre_a, pre_g, pre_r]; done) | (simp only [List.length_set]; done) | (simp only [List.length_set]; omega) | assumption | decide +kernel | fail) only [↓RP, RQ, isConstA, Nat.reduceEqDiff, Nat.reduceLT, Nat.reduceAdd, Int.reduceNeg, Int.reduceLT, Int.reduceLE, Int.reduceToNat, Int.reduceEq, ↓reduceIte, ite_true, ite_false, Option.toList, Nat.reduceMul, Nat.reduceSub, Nat.reduceLeDiff, ne_eq, eq_self, u_3, ag_3, sz_3, by_3, ze_3, es_3, u_4, ag_4, sz_4, by_4, ze_4, bo_4, es_4, u_9, ag_9, sz_9, by_9, ze_9, es_9, u_22, ag_22, sz_22, by_22, ze_22, es_22, u_36, f_36_0, f_36_1, f_36_2, f_36_3, f_36_4, ag_36, sz_36, by_36, ze_36, pl_36, es_36, u_47, ag_47, sz_47, by_47, ze_47, es_47, ↓AW_loop, f9, f8, f0, f1, f2, f3, hja]
            have hTx : T = x :: t := by rw [← hins, insR_nil]; rfl
            refine ⟨by decide +kernel, L2.length, by omega, i + 1, L1 ++ [x], L2, by rw [List.append_assoc]; exact hL, by rw [List.length_append, List.length_singleton]; omega, rfl, by congr 1, ?_, hu2⟩
            rw [hT, hTx]
            exact hr2
          · obtain ⟨s', y, rfl⟩ : ∃ s' y, s = s' ++ [y] := ⟨s.dropLast, s.getLast hs, (List.dropLast_concat_getLast hs).symm⟩
            have hja : (a : Int) < j := by simp only [List.length_append, List.length_singleton] at hj; omega
            have e0 : P ++ (s' ++ [y] ++ x :: (t ++ (L2 ++ S))) = (P ++ s') ++ y :: x :: (t ++ (L2 ++ S)) := by simp
            rw [e0] at hr2
            obtain ⟨gy, gx⟩ := get_adj (P ++ s') (t ++ (L2 ++ S)) x y
            have hjl : (P ++ s').length + 1 = j := by simp only [List.length_append, List.length_singleton] at hj ⊢; omega
            have hjl2 : (P ++ s').length = j - 1 := by omega
            rw [hjl] at gx
            rw [hjl2] at gy
            have hlen2 : ((P ++ s') ++ y :: x :: (t ++ (L2 ++ S))).length = N := by
              simp only [List.length_append, List.length_cons, List.length_nil] at hst hNl ⊢; omega
            have sw := swap_adj (P ++ s') (t ++ (L2 ++ S)) x y
            rw [hjl, hjl2] at sw
            obtain ⟨D', hD⟩ : ∃ D', (P ++ s') ++ y :: x :: (t ++ (L2 ++ S)) = D' := ⟨_, rfl⟩
            rw [hD] at hr2 gx gy hlen2 sw
            have hj1 : (j : Int) - 1 = ((j - 1 : Nat) : Int) := by omega
            have hjN : j < D'.length := (List.getElem?_eq_some_iff.1 gx).1
            have q1 : (j : Int) < N := by omega
            have q2 : ((j - 1 : Nat) : Int) < N := by omega
            have l1 := row_le elE_len gx
            have l2 := row_le elE_len gy
            have c1 := flatMap_chunk elE_len D' _ _ gx
            have c2 := flatMap_chunk elE_len D' _ _ gy
            have hr2' := hr2
            unfold RowAt at hr2
            have hrX := fun X => blkA_app X hr2
            simp -dsimp -implicitDefEqProofs (disch := first | omega | (simp only [stT, u_3, ag_3, sz_3, by_3, ze_3, es_3, u_4, ag_4, sz_4, by_4, ze_4, bo_4, es_4, u_9, ag_9, sz_9, by_9, ze_9, es_9, u_22, ag_22, sz_22, by_22, ze_22, es_22, u_36, f_36_0, f_36_1, f_36_2, f_36_3, f_36_4, ag_36, sz_36, by_36, ze_36, pl_36, es_36, u_47, ag_47, sz_47, by_47, ze_47, es_47]; done) | (simp only [List.append_assoc, List.cons_append, List.nil_append, pre_n, pre_c, pre_a, pre_g, pre_r]; done) | (simp only [List.length_set]; done) | (simp only [List.length_set]; omega) | assumption | decide +kernel | fail) only [↓RP, RQ, isConstA, Nat.reduceEqDiff, Nat.reduceLT, Nat.reduceAdd, Int.reduceNeg, Int.reduceLT, Int.reduceLE, Int.reduceToNat, Int.reduceEq, ↓reduceIte, ite_true, ite_false, Option.toList, Nat.reduceMul, Nat.reduceSub, Nat.reduceLeDiff, ne_eq, eq_self, u_3, ag_3, sz_3, by_3, ze_3, es_3, u_4, ag_4, sz_4, by_4, ze_4, bo_4, es_4, u_9, ag_9, sz_9, by_9, ze_9, es_9, u_22, ag_22, sz_22, by_22, ze_22, es_22, u_36, f_36_0, f_36_1, f_36_2, f_36_3, f_36_4, ag_36, sz_36, by_36, ze_36, pl_36, es_36, u_47, ag_47, sz_47, by_47, ze_47, es_47, ↓AW_loop, f9, f8, f0, f1, f2, f3, hja, hr2, hj1, q1, q2, l1, l2, c1, c2, cmpV]
            refine ⟨by decide +kernel, ?_⟩
            refine (cmp_q x y hokx (hoks2 y (by simp)) _).use' fun g => ?_
            by_cases hlt : keyE x < keyE y
            · have hlt' : keyE x - keyE y < 0 := by omega
              rw [insR_snoc_lt keyE hlt] at hins
              have p1 := row_put elE_len D' j y hjN
              have p2 := row_put elE_len (D'.set j y) (j - 1) x (by rw [List.length_set]; omega)
              have l3 : (j - 1) * 5 + 5 ≤ ((D'.set j y).flatMap elE).length := by rw [flatMap_len elE_len, List.length_set]; rw [flatMap_len elE_len] at l2; exact l2
              have hdlt := blkA_lt hr2
              have hs0 : ∀ X, blkA ((h2 ++ g).set d (some (.cells X))) d = some X := fun X => blk_setB0 (by rw [List.length_append]; omega)
              have o1 := elE_one x
              have o2 := elE_one y
              have e1 := elE_len x
              have e2 := elE_len y
              simp -dsimp -implicitDefEqProofs (disch := first | omega | (simp only [stT, u_3, ag_3, sz_3, by_3, ze_3, es_3, u_4, ag_4, sz_4, by_4, ze_4, bo_4, es_4, u_9, ag_9, sz_9, by_9, ze_9, es_9, u_22, ag_22, sz_22, by_22, ze_22, es_22, u_36, f_36_0, f_36_1, f_36_2, f_36_3, f_36_4, ag_36, sz_36, by_36, ze_36, pl_36, es_36, u_47, ag_47, sz_47, by_47, ze_47, es_47]; done) | (simp only [List.append_assoc, List.cons_append, List.nil_append, pre_n, pre_c, pre_a, pre_g, pre_r]; done) | (simp only [List.length_set]; done) | (simp only [List.length_set]; omega) | assumption | decide +kernel | fail) only [↓RP, RQ, isConstA, Nat.reduceEqDiff, Nat.reduceLT, Nat.reduceAdd, Int.reduceNeg, Int.reduceLT, Int.reduceLE, Int.reduceToNat, Int.reduceEq, ↓reduceIte, ite_true, ite_false, Option.toList, Nat.reduceMul, Nat.reduceSub, Nat.reduceLeDiff, ne_eq, eq_self, u_3, ag_3, sz_3, by_3, ze_3, es_3, u_4, ag_4, sz_4, by_4, ze_4, bo_4, es_4, u_9, ag_9, sz_9, by_9, ze_9, es_9, u_22, ag_22, sz_22, by_22, ze_22, es_22, u_36, f_36_0, f_36_1, f_36_2, f_36_3, f_36_4, ag_36, sz_36, by_36, ze_36, pl_36, es_36, u_47, ag_47, sz_47, by_47, ze_47, es_47, ↓AW_loop, f9, f8, f0, f1, f2, f3, hlt', hrX, hj1, q1, q2, l1, l2, c1, c2, p1, p2, l3, hs0, o1, o2, e1, e2, set_twice]
              refine ⟨by decide +kernel, s'.length, by rw [hn2]; simp, j - 1, s', y :: t, rfl, by simp only [List.length_append, List.length_singleton] at hj; omega, by simp only [List.length_append, List.length_cons, List.length_nil] at hst ⊢; omega, fun u hu => hoks2 u (by simp [hu]), rfl, rfl, ?_, by rw [← hins]; simp, (hu2.set (by simp)).more g⟩
              unfold RowAt
              rw [blk_setB hdlt, sw]
              simp
            · have hlt' : ¬ keyE x - keyE y < 0 := by omega
              rw [insR_snoc_ge keyE hlt] at hins
              simp -dsimp -implicitDefEqProofs (disch := first | omega | (simp only [stT, u_3, ag_3, sz_3, by_3, ze_3, es_3, u_4, ag_4, sz_4, by_4, ze_4, bo_4, es_4, u_9, ag_9, sz_9, by_9, ze_9, es_9, u_22, ag_22, sz_22, by_22, ze_22, es_22, u_36, f_36_0, f_36_1, f_36_2, f_36_3, f_36_4, ag_36, sz_36, by_36, ze_36, pl_36, es_36, u_47, ag_47, sz_47, by_47, ze_47, es_47]; done) | (simp only [List.append_assoc, List.cons_append, List.nil_append, pre_n, pre_c, pre_a, pre_g, pre_r]; done) | (simp only [List.length_set]; done) | (simp only [List.length_set]; omega) | assumption | decide +kernel | fail) only [↓RP, RQ, isConstA, Nat.reduceEqDiff, Nat.reduceLT, Nat.reduceAdd, Int.reduceNeg, Int.reduceLT, Int.reduceLE, Int.reduceToNat, Int.reduceEq, ↓reduceIte, ite_true, ite_false, Option.toList, Nat.reduceMul, Nat.reduceSub, Nat.reduceLeDiff, ne_eq, eq_self, u_3, ag_3, sz_3, by_3, ze_3, es_3, u_4, ag_4, sz_4, by_4, ze_4, bo_4, es_4, u_9, ag_9, sz_9, by_9, ze_9, es_9, u_22, ag_22, sz_22, by_22, ze_22, es_22, u_36, f_36_0, f_36_1, f_36_2, f_36_3, f_36_4, ag_36, sz_36, by_36, ze_36, pl_36, es_36, u_47, ag_47, sz_47, by_47, ze_47, es_47, ↓AW_loop, f9, f8, f0, f1, f2, f3, hlt']
              refine ⟨L2.length, by omega, i + 1, L1 ++ [x], L2, by rw [List.append_assoc]; exact hL, by rw [List.length_append, List.length_singleton]; omega, rfl, by congr 1, rfl, ?_, hu2.more g⟩
              rw [hT, ← hins]
              have := blkA_app g hr2
              rw [← hD] at this
              unfold RowAt
              rw [this]
              simp
        · simp -dsimp -implicitDefEqProofs (disch := first | omega | (simp only [stT, u_3, ag_3, sz_3, by_3, ze_3, es_3, u_4, ag_4, sz_4, by_4, ze_4, bo_4, es_4, u_9, ag_9, sz_9, by_9, ze_9, es_9, u_22, ag_22, sz_22, by_22, ze_22, es_22, u_36, f_36_0, f_36_1, f_36_2, f_36_3, f_36_4, ag_36, sz_36, by_36, ze_36, pl_36, es_36, u_47, ag_47, sz_47, by_47, ze_47, es_47]; done) | (simp only [List.append_assoc, List.cons_append, List.nil_append, pre_n, pre_c, pre_a, pre_g, pre_r]; done) | (simp only [List.length_set]; done) | (simp only [List.length_set]; omega) | assumption | decide +kernel | fail) only [↓RP, RQ, isConstA, Nat.reduceEqDiff, Nat.reduceLT, Nat.reduceAdd, Int.reduceNeg, Int.reduceLT, Int.reduceLE, Int.reduceToNat, Int.reduceEq, ↓reduceIte, ite_true, ite_false, Option.toList, Nat.reduceMul, Nat.reduceSub, Nat.reduceLeDiff, ne_eq, eq_self, u_3, ag_3, sz_3, by_3, ze_3, es_3, u_4, ag_4, sz_4, by_4, ze_4, bo_4, es_4, u_9, ag_9, sz_9, by_9, ze_9, es_9, u_22, ag_22, sz_22, by_22, ze_22, es_22, u_36, f_36_0, f_36_1, f_36_2, f_36_3, f_36_4, ag_36, sz_36, by_36, ze_36, pl_36, es_36, u_47, ag_47, sz_47, by_47, ze_47, es_47, ↓AW_loop]
          refine ⟨f8, f0, f1, f2, f3, ?_, hTT, hu⟩
          exact hr
    · simp -dsimp -implicitDefEqProofs (disch := first | omega | (simp only [stT, u_3, ag_3, sz_3, by_3, ze_3, es_3, u_4, ag_4, sz_4, by_4, ze_4, bo_4, es_4, u_9, ag_9, sz_9, by_9, ze_9, es_9, u_22, ag_22, sz_22, by_22, ze_22, es_22, u_36, f_36_0, f_36_1, f_36_2, f_36_3, f_36_4, ag_36, sz_36, by_36, ze_36, pl_36, es_36, u_47, ag_47, sz_47, by_47, ze_47, es_47]; done) | (simp only [List.append_assoc, List.cons_append, List.nil_append, pre_n, pre_c, pre_a, pre_g, pre_r]; done) | (simp only [List.length_set]; done) | (simp only [List.length_set]; omega) | assumption | decide +kernel | fail) only [↓RP, RQ, isConstA, Nat.reduceEqDiff, Nat.reduceLT, Nat.reduceAdd, Int.reduceNeg, Int.reduceLT, Int.reduceLE, Int.reduceToNat, Int.reduceEq, ↓reduceIte, ite_true, ite_false, Option.toList, Nat.reduceMul, Nat.reduceSub, Nat.reduceLeDiff, ne_eq, eq_self, u_3, ag_3, sz_3, by_3, ze_3, es_3, u_4, ag_4, sz_4, by_4, ze_4, bo_4, es_4, u_9, ag_9, sz_9, by_9, ze_9, es_9, u_22, ag_22, sz_22, by_22, ze_22, es_22, u_36, f_36_0, f_36_1, f_36_2, f_36_3, f_36_4, ag_36, sz_36, by_36, ze_36, pl_36, es_36, u_47, ag_47, sz_47, by_47, ze_47, es_47, ↓AW_loop]
      exact ⟨hd, Upd.refl _ _⟩
end Go.Abs
/- Pm4: the walks of the library's stable sort: merging in place, one element with others. Conditions: none. -/
set_option maxRecDepth 100000
set_option linter.unusedSimpArgs false
set_option linter.unusedVariables false
namespace Go.Abs
open Go.Proofs Go.Abs.Srt
theorem swap_fwd {α : Type} (Q R : List α) (x y : α) : ((Q ++ x :: y :: R).set Q.length y).set (Q.length + 1) x = Q ++ y :: x :: R := by
  have e : ∀ x y : α, Q ++ y :: x :: R = (Q ++ [y]) ++ x :: R := fun x y => by simp
  rw [set_mid Q _ x y _ rfl, e, set_mid (Q ++ [y]) R y x (Q.length + 1) (by simp), ← e]
theorem sorted_take {α : Type} (key : α → Int) {l : List α} (h : Sorted key l) {k : Nat} {y : α} (hk : l[k]? = some y) : ∀ z, z ∈ l.take (k + 1) → key z ≤ key y := by
  intro z hz
  obtain ⟨i, hi⟩ := List.getElem?_of_mem hz
  have hik : i < k + 1 := by
    have := (List.getElem?_eq_some_iff.1 hi).1
    rw [List.length_take] at this; omega
  rw [List.getElem?_take_of_lt hik] at hi
  by_cases he : i = k
  · subst he; rw [hk] at hi; cases hi; exact Int.le_refl _
  · obtain ⟨l1, e1⟩ := List.getElem?_eq_some_iff.1 hi
    obtain ⟨l2, e2⟩ := List.getElem?_eq_some_iff.1 hk
    have := List.pairwise_iff_getElem.1 h i k l1 l2 (by omega)
    rw [e1, e2] at this; exact this
theorem sorted_drop {α : Type} (key : α → Int) {l : List α} (h : Sorted key l) {k : Nat} {y : α} (hk : l[k]? = some y) : ∀ z, z ∈ l.drop k → key y ≤ key z := by
  intro z hz
  obtain ⟨i, hi⟩ := List.getElem?_of_mem hz
  rw [List.getElem?_drop] at hi
  by_cases he : i = 0
  · subst he; rw [Nat.add_zero, hk] at hi; cases hi; exact Int.le_refl _
  · obtain ⟨l1, e1⟩ := List.getElem?_eq_some_iff.1 hi
    obtain ⟨l2, e2⟩ := List.getElem?_eq_some_iff.1 hk
    have := List.pairwise_iff_getElem.1 h k (k + i) l2 l1 (by omega)
    rw [e1, e2] at this; exact this
theorem half_u (n : Nat) (h : n < 2 ^ 60) : IntKind.u64.wrap (n : Int) = (n : Int) := by rw [wrapu64]; omega
theorem shr1 {P : Program} {t : TypeId} {cx cy : Bool} {x : Nat} : binA P .shr t cx cy (.int .u64 x) (.int .u64 1) = some (.int .u64 ((x / 2 : Nat) : Int)) := by
  rw [b_shr, if_neg (by decide), show ((1 : Int).toNat) = 1 from rfl, show min 1 IntKind.u64.bits = 1 from rfl, fdivN]
theorem symA_q (P B S : List El) (x : El) {h : AHeap} {d z a m b : Nat} (hd : RowAt h d (P ++ x :: (B ++ S))) (ha : a = P.length) (hm : m = a + 1) (hb : b = m + B.length) (hB0 : 0 < B.length) (hB : Sorted keyE B) (hok : okE x) (hokB : ∀ y, y ∈ B → okE y) (hl : (P ++ x :: (B ++ S)).length < 2 ^ 40) :
    FW cx 26 [.slice (some ⟨d, 0, none⟩) (P ++ x :: (B ++ S)).length z, .int .i64 a, .int .i64 m, .int .i64 b, cmpV] h fun v h' => v = .tuple #[] ∧ RowAt h' d (P ++ (mrg keyE [x] B ++ S)) ∧ Upd h h' [d] [d] := by
  refine FW_f Try.func26 rfl (by decide +kernel) ?_
  have hNl : P.length + (1 + (B.length + S.length)) = (P ++ x :: (B ++ S)).length := by simp only [List.length_append, List.length_cons]; omega
  obtain ⟨N, hN⟩ : ∃ N, (P ++ x :: (B ++ S)).length = N := ⟨_, rfl⟩
  rw [hN] at hl hNl ⊢
  have s1 : (m : Int) - a = 1 := by omega
  simp -dsimp -implicitDefEqProofs (disch := first | omega | (simp only [stT, u_3, ag_3, sz_3, by_3, ze_3, es_3, u_4, ag_4, sz_4, by_4, ze_4, bo_4, es_4, u_9, ag_9, sz_9, by_9, ze_9, es_9, u_22, ag_22, sz_22, by_22, ze_22, es_22, u_36, f_36_0, f_36_1, f_36_2, f_36_3, f_36_4, ag_36, sz_36, by_36, ze_36, pl_36, es_36, u_47, ag_47, sz_47, by_47, ze_47, es_47, u_48, ag_48, sz_48, by_48, ze_48, es_48]; done) | (simp only [List.append_assoc, List.cons_append, List.nil_append, pre_n, pre_c, pre_a, pre_g, pre_r]; done) | (simp only [List.length_set]; done) | (simp only [List.length_set]; omega) | assumption | decide +kernel | fail) only [↓RP, RQ, isConstA, Nat.reduceEqDiff, Nat.reduceLT, Nat.reduceAdd, Int.reduceNeg, Int.reduceLT, Int.reduceLE, Int.reduceToNat, Int.reduceEq, ↓reduceIte, ite_true, ite_false, Option.toList, Nat.reduceMul, Nat.reduceSub, Nat.reduceLeDiff, ne_eq, eq_self, u_3, ag_3, sz_3, by_3, ze_3, es_3, u_4, ag_4, sz_4, by_4, ze_4, bo_4, es_4, u_9, ag_9, sz_9, by_9, ze_9, es_9, u_22, ag_22, sz_22, by_22, ze_22, es_22, u_36, f_36_0, f_36_1, f_36_2, f_36_3, f_36_4, ag_36, sz_36, by_36, ze_36, pl_36, es_36, u_47, ag_47, sz_47, by_47, ze_47, es_47, u_48, ag_48, sz_48, by_48, ze_48, es_48, ↓AW_loop, s1]
  have gx : (P ++ x :: (B ++ S))[a]? = some x := get_mid P _ x _ ha.symm
  have gB : ∀ k, m ≤ k → k < b → (P ++ x :: (B ++ S))[k]? = B[k - m]? := fun k h1 h2 => by
    rw [List.getElem?_append_right (by omega), show k - P.length = (k - m) + 1 by omega, List.getElem?_cons_succ, List.getElem?_append_left (by omega)]
  refine LW_rule (fun n fr h' => ∃ (i j : Nat), n = j - i ∧ m ≤ i ∧ i ≤ j ∧ j ≤ b ∧ (∀ y, y ∈ B.take (i - m) → keyE y < keyE x) ∧ (∀ y, y ∈ B.drop (j - m) → keyE x ≤ keyE y) ∧ fget fr 10 = .int .i64 i ∧ fget fr 11 = .int .i64 j ∧ fget fr 0 = .slice (some ⟨d, 0, none⟩) N z ∧ fget fr 1 = .int .i64 a ∧ fget fr 4 = cmpV ∧
      RowAt h' d (P ++ x :: (B ++ S)) ∧ Upd h h' [d] [d]) ?_ (b - m) _ _ ⟨m, b, rfl, by omega, by omega, by omega, by simp, by rw [List.drop_of_length_le (by omega)]; simp, ?_⟩
  · rintro n fr h' ⟨i, j, hn, hmi, hij, hjb, hlo, hhi, f10, f11, f0, f1, f4, hr, hu⟩
    by_cases hlt : i < j
    · have hlt' : (i : Int) < j := by omega
      have hadd : (i : Int) + j = ((i + j : Nat) : Int) := by omega
      obtain ⟨k, hk⟩ : ∃ k, (i + j) / 2 = k := ⟨_, rfl⟩
      obtain ⟨y, hy⟩ : ∃ y, B[k - m]? = some y := ⟨_, List.getElem?_eq_getElem (by omega)⟩
      have gy := gB k (by omega) (by omega)
      rw [hy] at gy
      have hw1 := half_u (i + j) (by omega)
      have q1 : (a : Int) < N := by omega
      have q2 : (k : Int) < N := by omega
      have l1 := row_le elE_len gx
      have l2 := row_le elE_len gy
      have c1 := flatMap_chunk elE_len _ _ _ gx
      have c2 := flatMap_chunk elE_len _ _ _ gy
      have hr' := hr
      unfold RowAt at hr'
      obtain ⟨D, hD⟩ : ∃ D, P ++ x :: (B ++ S) = D := ⟨_, rfl⟩
      rw [hD] at hr' l1 l2 c1 c2
      simp -dsimp -implicitDefEqProofs (disch := first | omega | (simp only [stT, u_3, ag_3, sz_3, by_3, ze_3, es_3, u_4, ag_4, sz_4, by_4, ze_4, bo_4, es_4, u_9, ag_9, sz_9, by_9, ze_9, es_9, u_22, ag_22, sz_22, by_22, ze_22, es_22, u_36, f_36_0, f_36_1, f_36_2, f_36_3, f_36_4, ag_36, sz_36, by_36, ze_36, pl_36, es_36, u_47, ag_47, sz_47, by_47, ze_47, es_47, u_48, ag_48, sz_48, by_48, ze_48, es_48]; done) | (simp only [List.append_assoc, List.cons_append, List.nil_append, pre_n, pre_c, pre_a, pre_g, pre_r]; done) | (simp only [List.length_set]; done) | (simp only [List.length_set]; omega) | assumption | decide +kernel | fail) only [↓RP, RQ, isConstA, Nat.reduceEqDiff, Nat.reduceLT, Nat.reduceAdd, Int.reduceNeg, Int.reduceLT, Int.reduceLE, Int.reduceToNat, Int.reduceEq, ↓reduceIte, ite_true, ite_false, Option.toList, Nat.reduceMul, Nat.reduceSub, Nat.reduceLeDiff, ne_eq, eq_self, u_3, ag_3, sz_3, by_3, ze_3, es_3, u_4, ag_4, sz_4, by_4, ze_4, bo_4, es_4, u_9, ag_9, sz_9, by_9, ze_9, es_9, u_22, ag_22, sz_22, by_22, ze_22, es_22, u_36, f_36_0, f_36_1, f_36_2, f_36_3, f_36_4, ag_36, sz_36, by_36, ze_36, pl_36, es_36, u_47, ag_47, sz_47, by_47, ze_47, es_47, u_48, ag_48, sz_48, by_48, ze_48, es_48, ↓AW_loop, f10, f11, f0, f1, f4, hlt', hadd, hw1, shr1, hk, hr', q1, q2, l1, l2, c1, c2, cmpV]
      refine ⟨by decide +kernel, ?_⟩
      refine (cmp_q y x (hokB y (List.mem_of_getElem? hy)) hok _).use' fun g => ?_
      by_cases hc : keyE y < keyE x
      · have hc' : keyE y - keyE x < 0 := by omega
        simp -dsimp -implicitDefEqProofs (disch := first | omega | (simp only [stT, u_3, ag_3, sz_3, by_3, ze_3, es_3, u_4, ag_4, sz_4, by_4, ze_4, bo_4, es_4, u_9, ag_9, sz_9, by_9, ze_9, es_9, u_22, ag_22, sz_22, by_22, ze_22, es_22, u_36, f_36_0, f_36_1, f_36_2, f_36_3, f_36_4, ag_36, sz_36, by_36, ze_36, pl_36, es_36, u_47, ag_47, sz_47, by_47, ze_47, es_47, u_48, ag_48, sz_48, by_48, ze_48, es_48]; done) | (simp only [List.append_assoc, List.cons_append, List.nil_append, pre_n, pre_c, pre_a, pre_g, pre_r]; done) | (simp only [List.length_set]; done) | (simp only [List.length_set]; omega) | assumption | decide +kernel | fail) only [↓RP, RQ, isConstA, Nat.reduceEqDiff, Nat.reduceLT, Nat.reduceAdd, Int.reduceNeg, Int.reduceLT, Int.reduceLE, Int.reduceToNat, Int.reduceEq, ↓reduceIte, ite_true, ite_false, Option.toList, Nat.reduceMul, Nat.reduceSub, Nat.reduceLeDiff, ne_eq, eq_self, u_3, ag_3, sz_3, by_3, ze_3, es_3, u_4, ag_4, sz_4, by_4, ze_4, bo_4, es_4, u_9, ag_9, sz_9, by_9, ze_9, es_9, u_22, ag_22, sz_22, by_22, ze_22, es_22, u_36, f_36_0, f_36_1, f_36_2, f_36_3, f_36_4, ag_36, sz_36, by_36, ze_36, pl_36, es_36, u_47, ag_47, sz_47, by_47, ze_47, es_47, u_48, ag_48, sz_48, by_48, ze_48, es_48, ↓AW_loop, f10, f11, f0, f1, f4, hc']
        refine ⟨j - (k + 1), by omega, k + 1, j, rfl, by omega, by omega, hjb, fun u hu => ?_, hhi, rfl, rfl, rfl, ?_, hu.more g⟩
        · rw [show k + 1 - m = k - m + 1 by omega] at hu
          have := sorted_take keyE hB hy u hu
          omega
        · rw [hD]; exact blkA_app g hr'
      · have hc' : ¬ keyE y - keyE x < 0 := by omega
        simp -dsimp -implicitDefEqProofs (disch := first | omega | (simp only [stT, u_3, ag_3, sz_3, by_3, ze_3, es_3, u_4, ag_4, sz_4, by_4, ze_4, bo_4, es_4, u_9, ag_9, sz_9, by_9, ze_9, es_9, u_22, ag_22, sz_22, by_22, ze_22, es_22, u_36, f_36_0, f_36_1, f_36_2, f_36_3, f_36_4, ag_36, sz_36, by_36, ze_36, pl_36, es_36, u_47, ag_47, sz_47, by_47, ze_47, es_47, u_48, ag_48, sz_48, by_48, ze_48, es_48]; done) | (simp only [List.append_assoc, List.cons_append, List.nil_append, pre_n, pre_c, pre_a, pre_g, pre_r]; done) | (simp only [List.length_set]; done) | (simp only [List.length_set]; omega) | assumption | decide +kernel | fail) only [↓RP, RQ, isConstA, Nat.reduceEqDiff, Nat.reduceLT, Nat.reduceAdd, Int.reduceNeg, Int.reduceLT, Int.reduceLE, Int.reduceToNat, Int.reduceEq, ↓reduceIte, ite_true, ite_false, Option.toList, Nat.reduceMul, Nat.reduceSub, Nat.reduceLeDiff, ne_eq, eq_self, u_3, ag_3, sz_3, by_3, ze_3, es_3, u_4, ag_4, sz_4, by_4, ze_4, bo_4, es_4, u_9, ag_9, sz_9, by_9, ze_9, es_9, u_22, ag_22, sz_22, by_22, ze_22, es_22, u_36, f_36_0, f_36_1, f_36_2, f_36_3, f_36_4, ag_36, sz_36, by_36, ze_36, pl_36, es_36, u_47, ag_47, sz_47, by_47, ze_47, es_47, u_48, ag_48, sz_48, by_48, ze_48, es_48, ↓AW_loop, f10, f11, f0, f1, f4, hc']
        refine ⟨k - i, by omega, i, k, rfl, hmi, by omega, by omega, hlo, fun u hu => ?_, rfl, rfl, rfl, ?_, hu.more g⟩
        · have := sorted_drop keyE hB hy u hu
          omega
        · rw [hD]; exact blkA_app g hr'
    · have hlt' : ¬ (i : Int) < j := by omega
      obtain rfl : i = j := by omega
      simp -dsimp -implicitDefEqProofs (disch := first | omega | (simp only [stT, u_3, ag_3, sz_3, by_3, ze_3, es_3, u_4, ag_4, sz_4, by_4, ze_4, bo_4, es_4, u_9, ag_9, sz_9, by_9, ze_9, es_9, u_22, ag_22, sz_22, by_22, ze_22, es_22, u_36, f_36_0, f_36_1, f_36_2, f_36_3, f_36_4, ag_36, sz_36, by_36, ze_36, pl_36, es_36, u_47, ag_47, sz_47, by_47, ze_47, es_47, u_48, ag_48, sz_48, by_48, ze_48, es_48]; done) | (simp only [List.append_assoc, List.cons_append, List.nil_append, pre_n, pre_c, pre_a, pre_g, pre_r]; done) | (simp only [List.length_set]; done) | (simp only [List.length_set]; omega) | assumption | decide +kernel | fail) only [↓RP, RQ, isConstA, Nat.reduceEqDiff, Nat.reduceLT, Nat.reduceAdd, Int.reduceNeg, Int.reduceLT, Int.reduceLE, Int.reduceToNat, Int.reduceEq, ↓reduceIte, ite_true, ite_false, Option.toList, Nat.reduceMul, Nat.reduceSub, Nat.reduceLeDiff, ne_eq, eq_self, u_3, ag_3, sz_3, by_3, ze_3, es_3, u_4, ag_4, sz_4, by_4, ze_4, bo_4, es_4, u_9, ag_9, sz_9, by_9, ze_9, es_9, u_22, ag_22, sz_22, by_22, ze_22, es_22, u_36, f_36_0, f_36_1, f_36_2, f_36_3, f_36_4, ag_36, sz_36, by_36, ze_36, pl_36, es_36, u_47, ag_47, sz_47, by_47, ze_47, es_47, u_48, ag_48, sz_48, by_48, ze_48, es_48, ↓AW_loop, f10, f11, f0, f1, f4, hlt']
      have hBs : B = B.take (i - m) ++ B.drop (i - m) := (List.take_append_drop _ _).symm
      have hl1 : (B.take (i - m)).length = i - m := by rw [List.length_take]; omega
      have hl2 : (B.drop (i - m)).length = B.length - (i - m) := List.length_drop
      have hmg := mrg_one_left keyE x _ _ hlo hhi
      rw [← hBs] at hmg
      generalize B.take (i - m) = B1 at *
      generalize B.drop (i - m) = B2 at *
      rw [hBs] at hr
      rw [hmg]
      have hi1 : (i : Int) - 1 = ((i - 1 : Nat) : Int) := by omega
      refine LW_rule (fun n fr h' => ∃ (k : Nat) (U V : List El), U ++ V = B1 ∧ k = a + U.length ∧ n = V.length ∧ fget fr 13 = .int .i64 k ∧ fget fr 10 = .int .i64 i ∧ fget fr 0 = .slice (some ⟨d, 0, none⟩) N z ∧ RowAt h' d (P ++ (U ++ x :: (V ++ (B2 ++ S)))) ∧ Upd h h' [d] [d]) ?_ B1.length _ _ ⟨a, [], B1, rfl, rfl, rfl, ?_⟩
      · rintro n fr h2 ⟨k, U, V, hUV, hk, hn2, f13, f10, f0, hr2, hu2⟩
        have hUl := congrArg List.length hUV
        rw [List.length_append] at hUl
        cases V with
        | nil =>
          have hki : ¬ (k : Int) < ((i - 1 : Nat) : Int) := by simp only [List.length_nil] at hUl; omega
          simp -dsimp -implicitDefEqProofs (disch := first | omega | (simp only [stT, u_3, ag_3, sz_3, by_3, ze_3, es_3, u_4, ag_4, sz_4, by_4, ze_4, bo_4, es_4, u_9, ag_9, sz_9, by_9, ze_9, es_9, u_22, ag_22, sz_22, by_22, ze_22, es_22, u_36, f_36_0, f_36_1, f_36_2, f_36_3, f_36_4, ag_36, sz_36, by_36, ze_36, pl_36, es_36, u_47, ag_47, sz_47, by_47, ze_47, es_47, u_48, ag_48, sz_48, by_48, ze_48, es_48]; done) | (simp only [List.append_assoc, List.cons_append, List.nil_append, pre_n, pre_c, pre_a, pre_g, pre_r]; done) | (simp only [List.length_set]; done) | (simp only [List.length_set]; omega) | assumption | decide +kernel | fail) only [↓RP, RQ, isConstA, Nat.reduceEqDiff, Nat.reduceLT, Nat.reduceAdd, Int.reduceNeg, Int.reduceLT, Int.reduceLE, Int.reduceToNat, Int.reduceEq, ↓reduceIte, ite_true, ite_false, Option.toList, Nat.reduceMul, Nat.reduceSub, Nat.reduceLeDiff, ne_eq, eq_self, u_3, ag_3, sz_3, by_3, ze_3, es_3, u_4, ag_4, sz_4, by_4, ze_4, bo_4, es_4, u_9, ag_9, sz_9, by_9, ze_9, es_9, u_22, ag_22, sz_22, by_22, ze_22, es_22, u_36, f_36_0, f_36_1, f_36_2, f_36_3, f_36_4, ag_36, sz_36, by_36, ze_36, pl_36, es_36, u_47, ag_47, sz_47, by_47, ze_47, es_47, u_48, ag_48, sz_48, by_48, ze_48, es_48, ↓AW_loop, f13, f10, f0, hi1, hki]
          rw [List.append_nil] at hUV
          subst hUV
          rw [List.nil_append] at hr2
          exact ⟨hr2, hu2⟩
        | cons y V =>
          simp only [List.length_cons] at hUl hn2
          have hki : (k : Int) < ((i - 1 : Nat) : Int) := by omega
          have e0 : P ++ (U ++ x :: (y :: V ++ (B2 ++ S))) = (P ++ U) ++ x :: y :: (V ++ (B2 ++ S)) := by simp
          rw [e0] at hr2
          obtain ⟨gx2, gy2⟩ := get_adj (P ++ U) (V ++ (B2 ++ S)) y x
          have sw := swap_fwd (P ++ U) (V ++ (B2 ++ S)) x y
          have hkl : (P ++ U).length = k := by rw [List.length_append]; omega
          rw [hkl] at gx2 gy2 sw
          have hBl := congrArg List.length hBs
          rw [List.length_append] at hBl
          obtain ⟨D', hD⟩ : ∃ D', (P ++ U) ++ x :: y :: (V ++ (B2 ++ S)) = D' := ⟨_, rfl⟩
          rw [hD] at hr2 gx2 gy2 sw
          have hk1 : (k : Int) + 1 = ((k + 1 : Nat) : Int) := by omega
          have hkN : k + 1 < D'.length := (List.getElem?_eq_some_iff.1 gy2).1
          have q1 : (k : Int) < N := by omega
          have q2 : ((k + 1 : Nat) : Int) < N := by omega
          have l1 := row_le elE_len gx2
          have l2 := row_le elE_len gy2
          have c1 := flatMap_chunk elE_len D' _ _ gx2
          have c2 := flatMap_chunk elE_len D' _ _ gy2
          have p1 := row_put elE_len D' k y (by omega)
          have p2 := row_put elE_len (D'.set k y) (k + 1) x (by rw [List.length_set]; omega)
          have l3 : (k + 1) * 5 + 5 ≤ ((D'.set k y).flatMap elE).length := by rw [flatMap_len elE_len, List.length_set]; rw [flatMap_len elE_len] at l2; exact l2
          have hdlt := blkA_lt hr2
          have hs0 : ∀ X, blkA (h2.set d (some (.cells X))) d = some X := fun X => blk_setB0 hdlt
          have o1 := elE_one x
          have o2 := elE_one y
          have e1 := elE_len x
          have e2 := elE_len y
          unfold RowAt at hr2
          simp -dsimp -implicitDefEqProofs (disch := first | omega | (simp only [stT, u_3, ag_3, sz_3, by_3, ze_3, es_3, u_4, ag_4, sz_4, by_4, ze_4, bo_4, es_4, u_9, ag_9, sz_9, by_9, ze_9, es_9, u_22, ag_22, sz_22, by_22, ze_22, es_22, u_36, f_36_0, f_36_1, f_36_2, f_36_3, f_36_4, ag_36, sz_36, by_36, ze_36, pl_36, es_36, u_47, ag_47, sz_47, by_47, ze_47, es_47, u_48, ag_48, sz_48, by_48, ze_48, es_48]; done) | (simp only [List.append_assoc, List.cons_append, List.nil_append, pre_n, pre_c, pre_a, pre_g, pre_r]; done) | (simp only [List.length_set]; done) | (simp only [List.length_set]; omega) | assumption | decide +kernel | fail) only [↓RP, RQ, isConstA, Nat.reduceEqDiff, Nat.reduceLT, Nat.reduceAdd, Int.reduceNeg, Int.reduceLT, Int.reduceLE, Int.reduceToNat, Int.reduceEq, ↓reduceIte, ite_true, ite_false, Option.toList, Nat.reduceMul, Nat.reduceSub, Nat.reduceLeDiff, ne_eq, eq_self, u_3, ag_3, sz_3, by_3, ze_3, es_3, u_4, ag_4, sz_4, by_4, ze_4, bo_4, es_4, u_9, ag_9, sz_9, by_9, ze_9, es_9, u_22, ag_22, sz_22, by_22, ze_22, es_22, u_36, f_36_0, f_36_1, f_36_2, f_36_3, f_36_4, ag_36, sz_36, by_36, ze_36, pl_36, es_36, u_47, ag_47, sz_47, by_47, ze_47, es_47, u_48, ag_48, sz_48, by_48, ze_48, es_48, ↓AW_loop, f13, f10, f0, hi1, hki, hr2, hk1, q1, q2, l1, l2, c1, c2, p1, p2, l3, hs0, o1, o2, e1, e2, set_twice]
          refine ⟨by decide +kernel, V.length, by omega, k + 1, U ++ [y], V, by rw [List.append_assoc]; exact hUV, by rw [List.length_append, List.length_singleton]; omega, rfl, rfl, ?_, hu2.set (by simp)⟩
          unfold RowAt
          rw [hs0, sw]
          simp
      · simp -dsimp -implicitDefEqProofs (disch := first | omega | (simp only [stT, u_3, ag_3, sz_3, by_3, ze_3, es_3, u_4, ag_4, sz_4, by_4, ze_4, bo_4, es_4, u_9, ag_9, sz_9, by_9, ze_9, es_9, u_22, ag_22, sz_22, by_22, ze_22, es_22, u_36, f_36_0, f_36_1, f_36_2, f_36_3, f_36_4, ag_36, sz_36, by_36, ze_36, pl_36, es_36, u_47, ag_47, sz_47, by_47, ze_47, es_47, u_48, ag_48, sz_48, by_48, ze_48, es_48]; done) | (simp only [List.append_assoc, List.cons_append, List.nil_append, pre_n, pre_c, pre_a, pre_g, pre_r]; done) | (simp only [List.length_set]; done) | (simp only [List.length_set]; omega) | assumption | decide +kernel | fail) only [↓RP, RQ, isConstA, Nat.reduceEqDiff, Nat.reduceLT, Nat.reduceAdd, Int.reduceNeg, Int.reduceLT, Int.reduceLE, Int.reduceToNat, Int.reduceEq, ↓reduceIte, ite_true, ite_false, Option.toList, Nat.reduceMul, Nat.reduceSub, Nat.reduceLeDiff, ne_eq, eq_self, u_3, ag_3, sz_3, by_3, ze_3, es_3, u_4, ag_4, sz_4, by_4, ze_4, bo_4, es_4, u_9, ag_9, sz_9, by_9, ze_9, es_9, u_22, ag_22, sz_22, by_22, ze_22, es_22, u_36, f_36_0, f_36_1, f_36_2, f_36_3, f_36_4, ag_36, sz_36, by_36, ze_36, pl_36, es_36, u_47, ag_47, sz_47, by_47, ze_47, es_47, u_48, ag_48, sz_48, by_48, ze_48, es_48, ↓AW_loop]
        rw [List.append_assoc] at hr
        exact ⟨f10, f0, hr, hu⟩
  · simp -dsimp -implicitDefEqProofs (disch := first | omega | (simp only [stT, u_3, ag_3, sz_3, by_3, ze_3, es_3, u_4, ag_4, sz_4, by_4, ze_4, bo_4, es_4, u_9, ag_9, sz_9, by_9, ze_9, es_9, u_22, ag_22, sz_22, by_22, ze_22, es_22, u_36, f_36_0, f_36_1, f_36_2, f_36_3, f_36_4, ag_36, sz_36, by_36, ze_36, pl_36, es_36, u_47, ag_47, sz_47, by_47, ze_47, es_47, u_48, ag_48, sz_48, by_48, ze_48, es_48]; done) | (simp only [List.append_assoc, List.cons_append, List.nil_append, pre_n, pre_c, pre_a, pre_g, pre_r]; done) | (simp only [List.length_set]; done) | (simp only [List.length_set]; omega) | assumption | decide +kernel | fail) only [↓RP, RQ, isConstA, Nat.reduceEqDiff, Nat.reduceLT, Nat.reduceAdd, Int.reduceNeg, Int.reduceLT, Int.reduceLE, Int.reduceToNat, Int.reduceEq, ↓reduceIte, ite_true, ite_false, Option.toList, Nat.reduceMul, Nat.reduceSub, Nat.reduceLeDiff, ne_eq, eq_self, u_3, ag_3, sz_3, by_3, ze_3, es_3, u_4, ag_4, sz_4, by_4, ze_4, bo_4, es_4, u_9, ag_9, sz_9, by_9, ze_9, es_9, u_22, ag_22, sz_22, by_22, ze_22, es_22, u_36, f_36_0, f_36_1, f_36_2, f_36_3, f_36_4, ag_36, sz_36, by_36, ze_36, pl_36, es_36, u_47, ag_47, sz_47, by_47, ze_47, es_47, u_48, ag_48, sz_48, by_48, ze_48, es_48, ↓AW_loop]
    exact ⟨hd, Upd.refl _ _⟩
theorem symB_q (P A S : List El) (y : El) {h : AHeap} {d z a m b : Nat} (hd : RowAt h d (P ++ (A ++ y :: S))) (ha : a = P.length) (hm : m = a + A.length) (hb : b = m + 1) (hA0 : 1 < A.length) (hA : Sorted keyE A) (hok : okE y) (hokA : ∀ x, x ∈ A → okE x) (hl : (P ++ (A ++ y :: S)).length < 2 ^ 40) :
    FW cx 26 [.slice (some ⟨d, 0, none⟩) (P ++ (A ++ y :: S)).length z, .int .i64 a, .int .i64 m, .int .i64 b, cmpV] h fun v h' => v = .tuple #[] ∧ RowAt h' d (P ++ (mrg keyE A [y] ++ S)) ∧ Upd h h' [d] [d] := by
  refine FW_f Try.func26 rfl (by decide +kernel) ?_
  have hNl : P.length + (A.length + (1 + S.length)) = (P ++ (A ++ y :: S)).length := by simp only [List.length_append, List.length_cons]; omega
  obtain ⟨N, hN⟩ : ∃ N, (P ++ (A ++ y :: S)).length = N := ⟨_, rfl⟩
  rw [hN] at hl hNl ⊢
  have s0 : (m : Int) - a = ((m - a : Nat) : Int) := by omega
  have s0' : ¬ ((m - a : Nat) : Int) = 1 := by omega
  have s1 : (b : Int) - m = 1 := by omega
  simp -dsimp -implicitDefEqProofs (disch := first | omega | (simp only [stT, u_3, ag_3, sz_3, by_3, ze_3, es_3, u_4, ag_4, sz_4, by_4, ze_4, bo_4, es_4, u_9, ag_9, sz_9, by_9, ze_9, es_9, u_22, ag_22, sz_22, by_22, ze_22, es_22, u_36, f_36_0, f_36_1, f_36_2, f_36_3, f_36_4, ag_36, sz_36, by_36, ze_36, pl_36, es_36, u_47, ag_47, sz_47, by_47, ze_47, es_47, u_48, ag_48, sz_48, by_48, ze_48, es_48]; done) | (simp only [List.append_assoc, List.cons_append, List.nil_append, pre_n, pre_c, pre_a, pre_g, pre_r]; done) | (simp only [List.length_set]; done) | (simp only [List.length_set]; omega) | assumption | decide +kernel | fail) only [↓RP, RQ, isConstA, Nat.reduceEqDiff, Nat.reduceLT, Nat.reduceAdd, Int.reduceNeg, Int.reduceLT, Int.reduceLE, Int.reduceToNat, Int.reduceEq, ↓reduceIte, ite_true, ite_false, Option.toList, Nat.reduceMul, Nat.reduceSub, Nat.reduceLeDiff, ne_eq, eq_self, u_3, ag_3, sz_3, by_3, ze_3, es_3, u_4, ag_4, sz_4, by_4, ze_4, bo_4, es_4, u_9, ag_9, sz_9, by_9, ze_9, es_9, u_22, ag_22, sz_22, by_22, ze_22, es_22, u_36, f_36_0, f_36_1, f_36_2, f_36_3, f_36_4, ag_36, sz_36, by_36, ze_36, pl_36, es_36, u_47, ag_47, sz_47, by_47, ze_47, es_47, u_48, ag_48, sz_48, by_48, ze_48, es_48, ↓AW_loop, s0, s0', s1]
  have gy : (P ++ (A ++ y :: S))[m]? = some y := by rw [← List.append_assoc]; exact get_mid (P ++ A) S y m (by rw [List.length_append]; omega)
  have gA : ∀ k, a ≤ k → k < m → (P ++ (A ++ y :: S))[k]? = A[k - a]? := fun k h1 h2 => by
    rw [List.getElem?_append_right (by omega), List.getElem?_append_left (by omega), ha]
  refine LW_rule (fun n fr h' => ∃ (i j : Nat), n = j - i ∧ a ≤ i ∧ i ≤ j ∧ j ≤ m ∧ (∀ x, x ∈ A.take (i - a) → keyE x ≤ keyE y) ∧ (∀ x, x ∈ A.drop (j - a) → keyE y < keyE x) ∧ fget fr 14 = .int .i64 i ∧ fget fr 15 = .int .i64 j ∧ fget fr 0 = .slice (some ⟨d, 0, none⟩) N z ∧ fget fr 2 = .int .i64 m ∧ fget fr 4 = cmpV ∧
      RowAt h' d (P ++ (A ++ y :: S)) ∧ Upd h h' [d] [d]) ?_ (m - a) _ _ ⟨a, m, rfl, by omega, by omega, by omega, by simp, by rw [List.drop_of_length_le (by omega)]; simp, ?_⟩
  · rintro n fr h' ⟨i, j, hn, hmi, hij, hjb, hlo, hhi, f14, f15, f0, f2, f4, hr, hu⟩
    by_cases hlt : i < j
    · have hlt' : (i : Int) < j := by omega
      have hadd : (i : Int) + j = ((i + j : Nat) : Int) := by omega
      obtain ⟨k, hk⟩ : ∃ k, (i + j) / 2 = k := ⟨_, rfl⟩
      obtain ⟨x, hx⟩ : ∃ x, A[k - a]? = some x := ⟨_, List.getElem?_eq_getElem (by omega)⟩
      have gx := gA k (by omega) (by omega)
      rw [hx] at gx
      have hw1 := half_u (i + j) (by omega)
      have q1 : (m : Int) < N := by omega
      have q2 : (k : Int) < N := by omega
      have l1 := row_le elE_len gy
      have l2 := row_le elE_len gx
      have c1 := flatMap_chunk elE_len _ _ _ gy
      have c2 := flatMap_chunk elE_len _ _ _ gx
      have hr' := hr
      unfold RowAt at hr'
      obtain ⟨D, hD⟩ : ∃ D, P ++ (A ++ y :: S) = D := ⟨_, rfl⟩
      rw [hD] at hr' l1 l2 c1 c2
      simp -dsimp -implicitDefEqProofs (disch := first | omega | (simp only [stT, u_3, ag_3, sz_3, by_3, ze_3, es_3, u_4, ag_4, sz_4, by_4, ze_4, bo_4, es_4, u_9, ag_9, sz_9, by_9, ze_9, es_9, u_22, ag_22, sz_22, by_22, ze_22, es_22, u_36, f_36_0, f_36_1, f_36_2, f_36_3, f_36_4, ag_36, sz_36, by_36, ze_36, pl_36, es_36, u_47, ag_47, sz_47, by_47, ze_47, es_47, u_48, ag_48, sz_48, by_48, ze_48, es_48]; done) | (simp only [List.append_assoc, List.cons_append, List.nil_append, pre_n, pre_c, pre_a, pre_g, pre_r]; done) | (simp only [List.length_set]; done) | (simp only [List.length_set]; omega) | assumption | decide +kernel | fail) only [↓RP, RQ, isConstA, Nat.reduceEqDiff, Nat.reduceLT, Nat.reduceAdd, Int.reduceNeg, Int.reduceLT, Int.reduceLE, Int.reduceToNat, Int.reduceEq, ↓reduceIte, ite_true, ite_false, Option.toList, Nat.reduceMul, Nat.reduceSub, Nat.reduceLeDiff, ne_eq, eq_self, u_3, ag_3, sz_3, by_3, ze_3, es_3, u_4, ag_4, sz_4, by_4, ze_4, bo_4, es_4, u_9, ag_9, sz_9, by_9, ze_9, es_9, u_22, ag_22, sz_22, by_22, ze_22, es_22, u_36, f_36_0, f_36_1, f_36_2, f_36_3, f_36_4, ag_36, sz_36, by_36, ze_36, pl_36, es_36, u_47, ag_47, sz_47, by_47, ze_47, es_47, u_48, ag_48, sz_48, by_48, ze_48, es_48, ↓AW_loop, f14, f15, f0, f2, f4, hlt', hadd, hw1, shr1, hk, hr', q1, q2, l1, l2, c1, c2, cmpV]
      refine ⟨by decide +kernel, ?_⟩
      refine (cmp_q y x hok (hokA x (List.mem_of_getElem? hx)) _).use' fun g => ?_
      by_cases hc : keyE y < keyE x
      · have hc' : keyE y - keyE x < 0 := by omega
        simp -dsimp -implicitDefEqProofs (disch := first | omega | (simp only [stT, u_3, ag_3, sz_3, by_3, ze_3, es_3, u_4, ag_4, sz_4, by_4, ze_4, bo_4, es_4, u_9, ag_9, sz_9, by_9, ze_9, es_9, u_22, ag_22, sz_22, by_22, ze_22, es_22, u_36, f_36_0, f_36_1, f_36_2, f_36_3, f_36_4, ag_36, sz_36, by_36, ze_36, pl_36, es_36, u_47, ag_47, sz_47, by_47, ze_47, es_47, u_48, ag_48, sz_48, by_48, ze_48, es_48]; done) | (simp only [List.append_assoc, List.cons_append, List.nil_append, pre_n, pre_c, pre_a, pre_g, pre_r]; done) | (simp only [List.length_set]; done) | (simp only [List.length_set]; omega) | assumption | decide +kernel | fail) only [↓RP, RQ, isConstA, Nat.reduceEqDiff, Nat.reduceLT, Nat.reduceAdd, Int.reduceNeg, Int.reduceLT, Int.reduceLE, Int.reduceToNat, Int.reduceEq, ↓reduceIte, ite_true, ite_false, Option.toList, Nat.reduceMul, Nat.reduceSub, Nat.reduceLeDiff, ne_eq, eq_self, u_3, ag_3, sz_3, by_3, ze_3, es_3, u_4, ag_4, sz_4, by_4, ze_4, bo_4, es_4, u_9, ag_9, sz_9, by_9, ze_9, es_9, u_22, ag_22, sz_22, by_22, ze_22, es_22, u_36, f_36_0, f_36_1, f_36_2, f_36_3, f_36_4, ag_36, sz_36, by_36, ze_36, pl_36, es_36, u_47, ag_47, sz_47, by_47, ze_47, es_47, u_48, ag_48, sz_48, by_48, ze_48, es_48, ↓AW_loop, f14, f15, f0, f2, f4, hc']
        refine ⟨k - i, by omega, i, k, rfl, hmi, by omega, by omega, hlo, fun u hu => ?_, rfl, rfl, rfl, ?_, hu.more g⟩
        · have := sorted_drop keyE hA hx u hu
          omega
        · rw [hD]; exact blkA_app g hr'
      · have hc' : ¬ keyE y - keyE x < 0 := by omega
        simp -dsimp -implicitDefEqProofs (disch := first | omega | (simp only [stT, u_3, ag_3, sz_3, by_3, ze_3, es_3, u_4, ag_4, sz_4, by_4, ze_4, bo_4, es_4, u_9, ag_9, sz_9, by_9, ze_9, es_9, u_22, ag_22, sz_22, by_22, ze_22, es_22, u_36, f_36_0, f_36_1, f_36_2, f_36_3, f_36_4, ag_36, sz_36, by_36, ze_36, pl_36, es_36, u_47, ag_47, sz_47, by_47, ze_47, es_47, u_48, ag_48, sz_48, by_48, ze_48, es_48]; done) | (simp only [List.append_assoc, List.cons_append, List.nil_append, pre_n, pre_c, pre_a, pre_g, pre_r]; done) | (simp only [List.length_set]; done) | (simp only [List.length_set]; omega) | assumption | decide +kernel | fail) only [↓RP, RQ, isConstA, Nat.reduceEqDiff, Nat.reduceLT, Nat.reduceAdd, Int.reduceNeg, Int.reduceLT, Int.reduceLE, Int.reduceToNat, Int.reduceEq, ↓reduceIte, ite_true, ite_false, Option.toList, Nat.reduceMul, Nat.reduceSub, Nat.reduceLeDiff, ne_eq, eq_self, u_3, ag_3, sz_3, by_3, ze_3, es_3, u_4, ag_4, sz_4, by_4, ze_4, bo_4, es_4, u_9, ag_9, sz_9, by_9, ze_9, es_9, u_22, ag_22, sz_22, by_22, ze_22, es_22, u_36, f_36_0, f_36_1, f_36_2, f_36_3, f_36_4, ag_36, sz_36, by_36, ze_36, pl_36, es_36, u_47, ag_47, sz_47, by_47, ze_47, es_47, u_48, ag_48, sz_48, by_48, ze_48, es_48, ↓AW_loop, f14, f15, f0, f2, f4, hc']
        refine ⟨j - (k + 1), by omega, k + 1, j, rfl, by omega, by omega, hjb, fun u hu => ?_, hhi, rfl, rfl, rfl, ?_, hu.more g⟩
        · rw [show k + 1 - a = k - a + 1 by omega] at hu
          have := sorted_take keyE hA hx u hu
          omega
        · rw [hD]; exact blkA_app g hr'
    · have hlt' : ¬ (i : Int) < j := by omega
      obtain rfl : i = j := by omega
      simp -dsimp -implicitDefEqProofs (disch := first | omega | (simp only [stT, u_3, ag_3, sz_3, by_3, ze_3, es_3, u_4, ag_4, sz_4, by_4, ze_4, bo_4, es_4, u_9, ag_9, sz_9, by_9, ze_9, es_9, u_22, ag_22, sz_22, by_22, ze_22, es_22, u_36, f_36_0, f_36_1, f_36_2, f_36_3, f_36_4, ag_36, sz_36, by_36, ze_36, pl_36, es_36, u_47, ag_47, sz_47, by_47, ze_47, es_47, u_48, ag_48, sz_48, by_48, ze_48, es_48]; done) | (simp only [List.append_assoc, List.cons_append, List.nil_append, pre_n, pre_c, pre_a, pre_g, pre_r]; done) | (simp only [List.length_set]; done) | (simp only [List.length_set]; omega) | assumption | decide +kernel | fail) only [↓RP, RQ, isConstA, Nat.reduceEqDiff, Nat.reduceLT, Nat.reduceAdd, Int.reduceNeg, Int.reduceLT, Int.reduceLE, Int.reduceToNat, Int.reduceEq, ↓reduceIte, ite_true, ite_false, Option.toList, Nat.reduceMul, Nat.reduceSub, Nat.reduceLeDiff, ne_eq, eq_self, u_3, ag_3, sz_3, by_3, ze_3, es_3, u_4, ag_4, sz_4, by_4, ze_4, bo_4, es_4, u_9, ag_9, sz_9, by_9, ze_9, es_9, u_22, ag_22, sz_22, by_22, ze_22, es_22, u_36, f_36_0, f_36_1, f_36_2, f_36_3, f_36_4, ag_36, sz_36, by_36, ze_36, pl_36, es_36, u_47, ag_47, sz_47, by_47, ze_47, es_47, u_48, ag_48, sz_48, by_48, ze_48, es_48, ↓AW_loop, f14, f15, f0, f2, f4, hlt']
      have hAs : A = A.take (i - a) ++ A.drop (i - a) := (List.take_append_drop _ _).symm
      have hl1 : (A.take (i - a)).length = i - a := by rw [List.length_take]; omega
      have hl2 : (A.drop (i - a)).length = A.length - (i - a) := List.length_drop
      have hmg := mrg_one_right keyE y _ _ hlo hhi
      rw [← hAs] at hmg
      generalize A.take (i - a) = A1 at *
      generalize A.drop (i - a) = A2 at *
      rw [hAs] at hr
      rw [hmg]
      refine LW_rule (fun n fr h' => ∃ (k : Nat) (U V : List El), U ++ V = A2 ∧ k = i + U.length ∧ n = U.length ∧ fget fr 17 = .int .i64 k ∧ fget fr 14 = .int .i64 i ∧ fget fr 0 = .slice (some ⟨d, 0, none⟩) N z ∧ RowAt h' d (P ++ (A1 ++ (U ++ y :: (V ++ S)))) ∧ Upd h h' [d] [d]) ?_ A2.length _ _ ⟨m, A2, [], by simp, by omega, rfl, ?_⟩
      · rintro n fr h2 ⟨k, U, V, hUV, hk, hn2, f17, f14, f0, hr2, hu2⟩
        by_cases hU : U = []
        · subst hU
          have hki : ¬ (i : Int) < k := by simp only [List.length_nil] at hk; omega
          simp -dsimp -implicitDefEqProofs (disch := first | omega | (simp only [stT, u_3, ag_3, sz_3, by_3, ze_3, es_3, u_4, ag_4, sz_4, by_4, ze_4, bo_4, es_4, u_9, ag_9, sz_9, by_9, ze_9, es_9, u_22, ag_22, sz_22, by_22, ze_22, es_22, u_36, f_36_0, f_36_1, f_36_2, f_36_3, f_36_4, ag_36, sz_36, by_36, ze_36, pl_36, es_36, u_47, ag_47, sz_47, by_47, ze_47, es_47, u_48, ag_48, sz_48, by_48, ze_48, es_48]; done) | (simp only [List.append_assoc, List.cons_append, List.nil_append, pre_n, pre_c, pre_a, pre_g, pre_r]; done) | (simp only [List.length_set]; done) | (simp only [List.length_set]; omega) | assumption | decide +kernel | fail) only [↓RP, RQ, isConstA, Nat.reduceEqDiff, Nat.reduceLT, Nat.reduceAdd, Int.reduceNeg, Int.reduceLT, Int.reduceLE, Int.reduceToNat, Int.reduceEq, ↓reduceIte, ite_true, ite_false, Option.toList, Nat.reduceMul, Nat.reduceSub, Nat.reduceLeDiff, ne_eq, eq_self, u_3, ag_3, sz_3, by_3, ze_3, es_3, u_4, ag_4, sz_4, by_4, ze_4, bo_4, es_4, u_9, ag_9, sz_9, by_9, ze_9, es_9, u_22, ag_22, sz_22, by_22, ze_22, es_22, u_36, f_36_0, f_36_1, f_36_2, f_36_3, f_36_4, ag_36, sz_36, by_36, ze_36, pl_36, es_36, u_47, ag_47, sz_47, by_47, ze_47, es_47, u_48, ag_48, sz_48, by_48, ze_48, es_48, ↓AW_loop, f17, f14, f0, hki]
          rw [List.nil_append] at hUV
          subst hUV
          exact ⟨hr2, hu2⟩
        · obtain ⟨U, x, rfl⟩ : ∃ U' x, U = U' ++ [x] := ⟨U.dropLast, U.getLast hU, (List.dropLast_concat_getLast hU).symm⟩
          have hki : (i : Int) < k := by simp only [List.length_append, List.length_singleton] at hk; omega
          have e0 : P ++ (A1 ++ (U ++ [x] ++ y :: (V ++ S))) = (P ++ (A1 ++ U)) ++ x :: y :: (V ++ S) := by simp
          rw [e0] at hr2
          obtain ⟨gx2, gy2⟩ := get_adj (P ++ (A1 ++ U)) (V ++ S) y x
          have sw := swap_adj (P ++ (A1 ++ U)) (V ++ S) y x
          have hkl : (P ++ (A1 ++ U)).length + 1 = k := by simp only [List.length_append, List.length_singleton] at hk ⊢; omega
          have hkl2 : (P ++ (A1 ++ U)).length = k - 1 := by omega
          rw [hkl] at gy2 sw
          rw [hkl2] at gx2 sw
          have hUl := congrArg List.length hUV
          have hAl := congrArg List.length hAs
          simp only [List.length_append, List.length_singleton] at hUl hAl
          obtain ⟨D', hD⟩ : ∃ D', (P ++ (A1 ++ U)) ++ x :: y :: (V ++ S) = D' := ⟨_, rfl⟩
          rw [hD] at hr2 gx2 gy2 sw
          have hk1 : (k : Int) - 1 = ((k - 1 : Nat) : Int) := by omega
          have hkN : k < D'.length := (List.getElem?_eq_some_iff.1 gy2).1
          have hDl : D'.length = N := by rw [← hD]; simp only [List.length_append, List.length_cons]; omega
          have q1 : (k : Int) < N := by omega
          have q2 : ((k - 1 : Nat) : Int) < N := by omega
          have l1 := row_le elE_len gx2
          have l2 := row_le elE_len gy2
          have c1 := flatMap_chunk elE_len D' _ _ gx2
          have c2 := flatMap_chunk elE_len D' _ _ gy2
          have p1 := row_put elE_len D' k x (by omega)
          have p2 := row_put elE_len (D'.set k x) (k - 1) y (by rw [List.length_set]; omega)
          have l3 : (k - 1) * 5 + 5 ≤ ((D'.set k x).flatMap elE).length := by rw [flatMap_len elE_len, List.length_set]; rw [flatMap_len elE_len] at l1; exact l1
          have hdlt := blkA_lt hr2
          have hs0 : ∀ X, blkA (h2.set d (some (.cells X))) d = some X := fun X => blk_setB0 hdlt
          have o1 := elE_one x
          have o2 := elE_one y
          have e1 := elE_len x
          have e2 := elE_len y
          unfold RowAt at hr2
          simp -dsimp -implicitDefEqProofs (disch := first | omega | (simp only [stT, u_3, ag_3, sz_3, by_3, ze_3, es_3, u_4, ag_4, sz_4, by_4, ze_4, bo_4, es_4, u_9, ag_9, sz_9, by_9, ze_9, es_9, u_22, ag_22, sz_22, by_22, ze_22, es_22, u_36, f_36_0, f_36_1, f_36_2, f_36_3, f_36_4, ag_36, sz_36, by_36, ze_36, pl_36, es_36, u_47, ag_47, sz_47, by_47, ze_47, es_47, u_48, ag_48, sz_48, by_48, ze_48, es_48]; done) | (simp only [List.append_assoc, List.cons_append, List.nil_append, pre_n, pre_c, pre_a, pre_g, pre_r]; done) | (simp only [List.length_set]; done) | (simp only [List.length_set]; omega) | assumption | decide +kernel | fail) only [↓RP, RQ, isConstA, Nat.reduceEqDiff, Nat.reduceLT, Nat.reduceAdd, Int.reduceNeg, Int.reduceLT, Int.reduceLE, Int.reduceToNat, Int.reduceEq, ↓reduceIte, ite_true, ite_false, Option.toList, Nat.reduceMul, Nat.reduceSub, Nat.reduceLeDiff, ne_eq, eq_self, u_3, ag_3, sz_3, by_3, ze_3, es_3, u_4, ag_4, sz_4, by_4, ze_4, bo_4, es_4, u_9, ag_9, sz_9, by_9, ze_9, es_9, u_22, ag_22, sz_22, by_22, ze_22, es_22, u_36, f_36_0, f_36_1, f_36_2, f_36_3, f_36_4, ag_36, sz_36, by_36, ze_36, pl_36, es_36, u_47, ag_47, sz_47, by_47, ze_47, es_47, u_48, ag_48, sz_48, by_48, ze_48, es_48, ↓AW_loop, f17, f14, f0, hki, hr2, hk1, q1, q2, l1, l2, c1, c2, p1, p2, l3, hs0, o1, o2, e1, e2, set_twice]
          refine ⟨by decide +kernel, U.length, by rw [hn2]; simp, k - 1, U, x :: V, by rw [← hUV]; simp, by simp only [List.length_append, List.length_singleton] at hk; omega, rfl, rfl, ?_, hu2.set (by simp)⟩
          unfold RowAt
          rw [hs0, sw]
          simp
      · simp -dsimp -implicitDefEqProofs (disch := first | omega | (simp only [stT, u_3, ag_3, sz_3, by_3, ze_3, es_3, u_4, ag_4, sz_4, by_4, ze_4, bo_4, es_4, u_9, ag_9, sz_9, by_9, ze_9, es_9, u_22, ag_22, sz_22, by_22, ze_22, es_22, u_36, f_36_0, f_36_1, f_36_2, f_36_3, f_36_4, ag_36, sz_36, by_36, ze_36, pl_36, es_36, u_47, ag_47, sz_47, by_47, ze_47, es_47, u_48, ag_48, sz_48, by_48, ze_48, es_48]; done) | (simp only [List.append_assoc, List.cons_append, List.nil_append, pre_n, pre_c, pre_a, pre_g, pre_r]; done) | (simp only [List.length_set]; done) | (simp only [List.length_set]; omega) | assumption | decide +kernel | fail) only [↓RP, RQ, isConstA, Nat.reduceEqDiff, Nat.reduceLT, Nat.reduceAdd, Int.reduceNeg, Int.reduceLT, Int.reduceLE, Int.reduceToNat, Int.reduceEq, ↓reduceIte, ite_true, ite_false, Option.toList, Nat.reduceMul, Nat.reduceSub, Nat.reduceLeDiff, ne_eq, eq_self, u_3, ag_3, sz_3, by_3, ze_3, es_3, u_4, ag_4, sz_4, by_4, ze_4, bo_4, es_4, u_9, ag_9, sz_9, by_9, ze_9, es_9, u_22, ag_22, sz_22, by_22, ze_22, es_22, u_36, f_36_0, f_36_1, f_36_2, f_36_3, f_36_4, ag_36, sz_36, by_36, ze_36, pl_36, es_36, u_47, ag_47, sz_47, by_47, ze_47, es_47, u_48, ag_48, sz_48, by_48, ze_48, es_48, ↓AW_loop]
        rw [List.append_assoc] at hr
        exact ⟨f14, f0, hr, hu⟩
  · simp -dsimp -implicitDefEqProofs (disch := first | omega | (simp only [stT, u_3, ag_3, sz_3, by_3, ze_3, es_3, u_4, ag_4, sz_4, by_4, ze_4, bo_4, es_4, u_9, ag_9, sz_9, by_9, ze_9, es_9, u_22, ag_22, sz_22, by_22, ze_22, es_22, u_36, f_36_0, f_36_1, f_36_2, f_36_3, f_36_4, ag_36, sz_36, by_36, ze_36, pl_36, es_36, u_47, ag_47, sz_47, by_47, ze_47, es_47, u_48, ag_48, sz_48, by_48, ze_48, es_48]; done) | (simp only [List.append_assoc, List.cons_append, List.nil_append, pre_n, pre_c, pre_a, pre_g, pre_r]; done) | (simp only [List.length_set]; done) | (simp only [List.length_set]; omega) | assumption | decide +kernel | fail) only [↓RP, RQ, isConstA, Nat.reduceEqDiff, Nat.reduceLT, Nat.reduceAdd, Int.reduceNeg, Int.reduceLT, Int.reduceLE, Int.reduceToNat, Int.reduceEq, ↓reduceIte, ite_true, ite_false, Option.toList, Nat.reduceMul, Nat.reduceSub, Nat.reduceLeDiff, ne_eq, eq_self, u_3, ag_3, sz_3, by_3, ze_3, es_3, u_4, ag_4, sz_4, by_4, ze_4, bo_4, es_4, u_9, ag_9, sz_9, by_9, ze_9, es_9, u_22, ag_22, sz_22, by_22, ze_22, es_22, u_36, f_36_0, f_36_1, f_36_2, f_36_3, f_36_4, ag_36, sz_36, by_36, ze_36, pl_36, es_36, u_47, ag_47, sz_47, by_47, ze_47, es_47, u_48, ag_48, sz_48, by_48, ze_48, es_48, ↓AW_loop]
    exact ⟨hd, Upd.refl _ _⟩
end Go.Abs
/- Pm5: the walks of the library's stable sort: merging in place. Conditions: none. -/
set_option maxRecDepth 100000
set_option linter.unusedSimpArgs false
set_option linter.unusedVariables false
set_option maxHeartbeats 4000000
namespace Go.Abs
open Go.Proofs Go.Abs.Srt
def SymOK (M : Nat) : Prop := ∀ (P A B S : List El) {h : AHeap} {d z a m b : Nat}, A.length + B.length ≤ M → 0 < A.length → 0 < B.length → RowAt h d (P ++ (A ++ (B ++ S))) → a = P.length → m = a + A.length → b = m + B.length → Sorted keyE A → Sorted keyE B → (∀ x, x ∈ A → okE x) → (∀ y, y ∈ B → okE y) → (P ++ (A ++ (B ++ S))).length < 2 ^ 40 →
    FW cx 26 [.slice (some ⟨d, 0, none⟩) (P ++ (A ++ (B ++ S))).length z, .int .i64 a, .int .i64 m, .int .i64 b, cmpV] h fun v h' => v = .tuple #[] ∧ RowAt h' d (P ++ (mrg keyE A B ++ S)) ∧ Upd h h' [d] [d]
theorem sorted_sub {l l1 l2 : List El} (h : Sorted keyE l) (e : l = l1 ++ l2) : Sorted keyE l1 ∧ Sorted keyE l2 := by
  subst e
  have := List.pairwise_append.1 h
  exact ⟨this.1, this.2.1⟩
def Pm (N d z a m b : Nat) (fr : AFrame) : Prop := fget fr 0 = .slice (some ⟨d, 0, none⟩) N z ∧ fget fr 1 = .int .i64 a ∧ fget fr 2 = .int .i64 m ∧ fget fr 3 = .int .i64 b ∧ fget fr 4 = cmpV
/-- What holds behind the search. -/
def SymF (A B : List El) (a m n st0 r0 s r : Nat) : Prop := (s = st0 ∨ ∃ x y, A[s - 1 - a]? = some x ∧ B[n - s - m]? = some y ∧ keyE x ≤ keyE y) ∧ (r = r0 ∨ ∃ x y, A[r - a]? = some x ∧ B[n - 1 - r - m]? = some y ∧ keyE y < keyE x)
theorem LW_cut {c : Ctx} {n id : Nat} {a rest : Code} {Q : AExit → AFrame → AHeap → Prop} {fr : AFrame} {h : AHeap} (I : AFrame → AHeap → Prop) (h1 : LW c n a (fun x fr h => x = .exit id ∧ I fr h) fr h) (h2 : ∀ fr h, I fr h → AW c n rest Q fr h) : LW c n a (blockQ id (thenQ (AW c n rest Q) Q)) fr h := by
  obtain ⟨x, fr', h', he, rfl, hi⟩ := h1
  refine ⟨_, fr', h', he, ?_⟩
  simp only [blockQ, if_true, thenQ]
  exact h2 _ _ hi
theorem symC_q (M : Nat) (ih : SymOK M) (P A B S : List El) {h : AHeap} {d z a m b : Nat} (hM : A.length + B.length ≤ M + 1) (hA1 : 1 < A.length) (hB1 : 1 < B.length) (hd : RowAt h d (P ++ (A ++ (B ++ S)))) (ha : a = P.length) (hm : m = a + A.length) (hb : b = m + B.length)
    (hA : Sorted keyE A) (hB : Sorted keyE B) (okA : ∀ x, x ∈ A → okE x) (okB : ∀ y, y ∈ B → okE y) (hl : (P ++ (A ++ (B ++ S))).length < 2 ^ 40) :
    FW cx 26 [.slice (some ⟨d, 0, none⟩) (P ++ (A ++ (B ++ S))).length z, .int .i64 a, .int .i64 m, .int .i64 b, cmpV] h fun v h' => v = .tuple #[] ∧ RowAt h' d (P ++ (mrg keyE A B ++ S)) ∧ Upd h h' [d] [d] := by
  refine FW_f Try.func26 rfl (by decide +kernel) ?_
  have hNl : P.length + (A.length + (B.length + S.length)) = (P ++ (A ++ (B ++ S))).length := by simp only [List.length_append]
  obtain ⟨N, hN⟩ : ∃ N, (P ++ (A ++ (B ++ S))).length = N := ⟨_, rfl⟩
  rw [hN] at hl hNl ⊢
  have s0 : (m : Int) - a = ((m - a : Nat) : Int) := by omega
  have s0' : ¬ ((m - a : Nat) : Int) = 1 := by omega
  have s1 : (b : Int) - m = ((b - m : Nat) : Int) := by omega
  have s1' : ¬ ((b - m : Nat) : Int) = 1 := by omega
  have s2 : (a : Int) + b = ((a + b : Nat) : Int) := by omega
  obtain ⟨mid, hmid⟩ : ∃ mid, (a + b) / 2 = mid := ⟨_, rfl⟩
  have hw1 := half_u (a + b) (by omega)
  have s3 : (mid : Int) + m = ((mid + m : Nat) : Int) := by omega
  obtain ⟨n, hn⟩ : ∃ n, mid + m = n := ⟨_, rfl⟩
  have s5 : (n : Int) - 1 = ((n - 1 : Nat) : Int) := by omega
  have gA : ∀ k, a ≤ k → k < m → (P ++ (A ++ (B ++ S)))[k]? = A[k - a]? := fun k h1 h2 => by
    rw [List.getElem?_append_right (by omega), List.getElem?_append_left (by omega), ha]
  have gB : ∀ k, m ≤ k → k < b → (P ++ (A ++ (B ++ S)))[k]? = B[k - m]? := fun k h1 h2 => by
    rw [List.getElem?_append_right (by omega), List.getElem?_append_right (by omega), List.getElem?_append_left (by omega)]
    congr 1; omega
  -- the search's bounds
  obtain ⟨st0, r0, hst0⟩ : ∃ st0 r0 : Nat, (mid < m ∧ st0 = n - b ∧ r0 = mid) ∨ (¬ mid < m ∧ st0 = a ∧ r0 = m) := by
    by_cases h : mid < m
    · exact ⟨n - b, mid, .inl ⟨h, rfl, rfl⟩⟩
    · exact ⟨a, m, .inr ⟨h, rfl, rfl⟩⟩
  have n1 : a ≤ st0 := by omega
  have n2 : r0 ≤ m := by omega
  have n3 : st0 ≤ r0 := by omega
  have n4 : n - st0 ≤ b := by omega
  have n5 : m ≤ n - r0 := by omega
  have n6 : st0 = a ∨ n - st0 = b := by omega
  have n7 : r0 = m ∨ n - r0 = m := by omega
  have n8 : a < mid ∧ mid < b := by omega
  have n9 : n - st0 = n - st0 ∧ st0 ≤ n := by omega
  refine AW_cut (fun fr h' => Pm N d z a m b fr ∧ h = h') ?_ ?_
  · simp -dsimp -implicitDefEqProofs (disch := first | omega | (simp only [stT, u_3, ag_3, sz_3, by_3, ze_3, es_3, u_4, ag_4, sz_4, by_4, ze_4, bo_4, es_4, u_9, ag_9, sz_9, by_9, ze_9, es_9, u_22, ag_22, sz_22, by_22, ze_22, es_22, u_36, f_36_0, f_36_1, f_36_2, f_36_3, f_36_4, ag_36, sz_36, by_36, ze_36, pl_36, es_36, u_47, ag_47, sz_47, by_47, ze_47, es_47, u_48, ag_48, sz_48, by_48, ze_48, es_48]; done) | (simp only [List.append_assoc, List.cons_append, List.nil_append, pre_n, pre_c, pre_a, pre_g, pre_r]; done) | (simp only [List.length_set]; done) | (simp only [List.length_set]; omega) | assumption | decide +kernel | fail) only [↓RP, RQ, isConstA, Nat.reduceEqDiff, Nat.reduceLT, Nat.reduceAdd, Int.reduceNeg, Int.reduceLT, Int.reduceLE, Int.reduceToNat, Int.reduceEq, ↓reduceIte, ite_true, ite_false, Option.toList, Nat.reduceMul, Nat.reduceSub, Nat.reduceLeDiff, ne_eq, eq_self, u_3, ag_3, sz_3, by_3, ze_3, es_3, u_4, ag_4, sz_4, by_4, ze_4, bo_4, es_4, u_9, ag_9, sz_9, by_9, ze_9, es_9, u_22, ag_22, sz_22, by_22, ze_22, es_22, u_36, f_36_0, f_36_1, f_36_2, f_36_3, f_36_4, ag_36, sz_36, by_36, ze_36, pl_36, es_36, u_47, ag_47, sz_47, by_47, ze_47, es_47, u_48, ag_48, sz_48, by_48, ze_48, es_48, ↓AW_loop, s0, s0']
    exact ⟨rfl, rfl, rfl, rfl, rfl⟩
  rintro fr h' ⟨⟨f0, f1, f2, f3, f4⟩, rfl⟩
  refine AW_cut (fun fr h' => Pm N d z a m b fr ∧ h = h') ?_ ?_
  · simp -dsimp -implicitDefEqProofs (disch := first | omega | (simp only [stT, u_3, ag_3, sz_3, by_3, ze_3, es_3, u_4, ag_4, sz_4, by_4, ze_4, bo_4, es_4, u_9, ag_9, sz_9, by_9, ze_9, es_9, u_22, ag_22, sz_22, by_22, ze_22, es_22, u_36, f_36_0, f_36_1, f_36_2, f_36_3, f_36_4, ag_36, sz_36, by_36, ze_36, pl_36, es_36, u_47, ag_47, sz_47, by_47, ze_47, es_47, u_48, ag_48, sz_48, by_48, ze_48, es_48]; done) | (simp only [List.append_assoc, List.cons_append, List.nil_append, pre_n, pre_c, pre_a, pre_g, pre_r]; done) | (simp only [List.length_set]; done) | (simp only [List.length_set]; omega) | assumption | decide +kernel | fail) only [↓RP, RQ, isConstA, Nat.reduceEqDiff, Nat.reduceLT, Nat.reduceAdd, Int.reduceNeg, Int.reduceLT, Int.reduceLE, Int.reduceToNat, Int.reduceEq, ↓reduceIte, ite_true, ite_false, Option.toList, Nat.reduceMul, Nat.reduceSub, Nat.reduceLeDiff, ne_eq, eq_self, u_3, ag_3, sz_3, by_3, ze_3, es_3, u_4, ag_4, sz_4, by_4, ze_4, bo_4, es_4, u_9, ag_9, sz_9, by_9, ze_9, es_9, u_22, ag_22, sz_22, by_22, ze_22, es_22, u_36, f_36_0, f_36_1, f_36_2, f_36_3, f_36_4, ag_36, sz_36, by_36, ze_36, pl_36, es_36, u_47, ag_47, sz_47, by_47, ze_47, es_47, u_48, ag_48, sz_48, by_48, ze_48, es_48, ↓AW_loop, f0, f1, f2, f3, f4, s1, s1', Pm]
  rintro fr h' ⟨⟨f0, f1, f2, f3, f4⟩, rfl⟩
  refine AW_cut (fun fr h' => (Pm N d z a m b fr ∧ fget fr 18 = .int .i64 mid) ∧ h = h') ?_ ?_
  · simp -dsimp -implicitDefEqProofs (disch := first | omega | (simp only [stT, u_3, ag_3, sz_3, by_3, ze_3, es_3, u_4, ag_4, sz_4, by_4, ze_4, bo_4, es_4, u_9, ag_9, sz_9, by_9, ze_9, es_9, u_22, ag_22, sz_22, by_22, ze_22, es_22, u_36, f_36_0, f_36_1, f_36_2, f_36_3, f_36_4, ag_36, sz_36, by_36, ze_36, pl_36, es_36, u_47, ag_47, sz_47, by_47, ze_47, es_47, u_48, ag_48, sz_48, by_48, ze_48, es_48]; done) | (simp only [List.append_assoc, List.cons_append, List.nil_append, pre_n, pre_c, pre_a, pre_g, pre_r]; done) | (simp only [List.length_set]; done) | (simp only [List.length_set]; omega) | assumption | decide +kernel | fail) only [↓RP, RQ, isConstA, Nat.reduceEqDiff, Nat.reduceLT, Nat.reduceAdd, Int.reduceNeg, Int.reduceLT, Int.reduceLE, Int.reduceToNat, Int.reduceEq, ↓reduceIte, ite_true, ite_false, Option.toList, Nat.reduceMul, Nat.reduceSub, Nat.reduceLeDiff, ne_eq, eq_self, u_3, ag_3, sz_3, by_3, ze_3, es_3, u_4, ag_4, sz_4, by_4, ze_4, bo_4, es_4, u_9, ag_9, sz_9, by_9, ze_9, es_9, u_22, ag_22, sz_22, by_22, ze_22, es_22, u_36, f_36_0, f_36_1, f_36_2, f_36_3, f_36_4, ag_36, sz_36, by_36, ze_36, pl_36, es_36, u_47, ag_47, sz_47, by_47, ze_47, es_47, u_48, ag_48, sz_48, by_48, ze_48, es_48, ↓AW_loop, f0, f1, f2, f3, f4, s2, hw1, shr1, hmid, Pm]
  rintro fr h' ⟨⟨⟨f0, f1, f2, f3, f4⟩, f18⟩, rfl⟩
  refine AW_cut (fun fr h' => (Pm N d z a m b fr ∧ fget fr 18 = .int .i64 mid ∧ fget fr 19 = .int .i64 n) ∧ h = h') ?_ ?_
  · simp -dsimp -implicitDefEqProofs (disch := first | omega | (simp only [stT, u_3, ag_3, sz_3, by_3, ze_3, es_3, u_4, ag_4, sz_4, by_4, ze_4, bo_4, es_4, u_9, ag_9, sz_9, by_9, ze_9, es_9, u_22, ag_22, sz_22, by_22, ze_22, es_22, u_36, f_36_0, f_36_1, f_36_2, f_36_3, f_36_4, ag_36, sz_36, by_36, ze_36, pl_36, es_36, u_47, ag_47, sz_47, by_47, ze_47, es_47, u_48, ag_48, sz_48, by_48, ze_48, es_48]; done) | (simp only [List.append_assoc, List.cons_append, List.nil_append, pre_n, pre_c, pre_a, pre_g, pre_r]; done) | (simp only [List.length_set]; done) | (simp only [List.length_set]; omega) | assumption | decide +kernel | fail) only [↓RP, RQ, isConstA, Nat.reduceEqDiff, Nat.reduceLT, Nat.reduceAdd, Int.reduceNeg, Int.reduceLT, Int.reduceLE, Int.reduceToNat, Int.reduceEq, ↓reduceIte, ite_true, ite_false, Option.toList, Nat.reduceMul, Nat.reduceSub, Nat.reduceLeDiff, ne_eq, eq_self, u_3, ag_3, sz_3, by_3, ze_3, es_3, u_4, ag_4, sz_4, by_4, ze_4, bo_4, es_4, u_9, ag_9, sz_9, by_9, ze_9, es_9, u_22, ag_22, sz_22, by_22, ze_22, es_22, u_36, f_36_0, f_36_1, f_36_2, f_36_3, f_36_4, ag_36, sz_36, by_36, ze_36, pl_36, es_36, u_47, ag_47, sz_47, by_47, ze_47, es_47, u_48, ag_48, sz_48, by_48, ze_48, es_48, ↓AW_loop, f0, f1, f2, f3, f4, f18, s3, hn, Pm]
  rintro fr h' ⟨⟨⟨f0, f1, f2, f3, f4⟩, f18, f19⟩, rfl⟩
  refine AW_cut (fun fr h' => (Pm N d z a m b fr ∧ fget fr 18 = .int .i64 mid ∧ fget fr 19 = .int .i64 n) ∧ h = h') ?_ ?_
  · simp -dsimp -implicitDefEqProofs (disch := first | omega | (simp only [stT, u_3, ag_3, sz_3, by_3, ze_3, es_3, u_4, ag_4, sz_4, by_4, ze_4, bo_4, es_4, u_9, ag_9, sz_9, by_9, ze_9, es_9, u_22, ag_22, sz_22, by_22, ze_22, es_22, u_36, f_36_0, f_36_1, f_36_2, f_36_3, f_36_4, ag_36, sz_36, by_36, ze_36, pl_36, es_36, u_47, ag_47, sz_47, by_47, ze_47, es_47, u_48, ag_48, sz_48, by_48, ze_48, es_48]; done) | (simp only [List.append_assoc, List.cons_append, List.nil_append, pre_n, pre_c, pre_a, pre_g, pre_r]; done) | (simp only [List.length_set]; done) | (simp only [List.length_set]; omega) | assumption | decide +kernel | fail) only [↓RP, RQ, isConstA, Nat.reduceEqDiff, Nat.reduceLT, Nat.reduceAdd, Int.reduceNeg, Int.reduceLT, Int.reduceLE, Int.reduceToNat, Int.reduceEq, ↓reduceIte, ite_true, ite_false, Option.toList, Nat.reduceMul, Nat.reduceSub, Nat.reduceLeDiff, ne_eq, eq_self, u_3, ag_3, sz_3, by_3, ze_3, es_3, u_4, ag_4, sz_4, by_4, ze_4, bo_4, es_4, u_9, ag_9, sz_9, by_9, ze_9, es_9, u_22, ag_22, sz_22, by_22, ze_22, es_22, u_36, f_36_0, f_36_1, f_36_2, f_36_3, f_36_4, ag_36, sz_36, by_36, ze_36, pl_36, es_36, u_47, ag_47, sz_47, by_47, ze_47, es_47, u_48, ag_48, sz_48, by_48, ze_48, es_48, ↓AW_loop, f0, f1, f2, f3, f4, f18, f19, Pm]
  rintro fr h' ⟨⟨⟨f0, f1, f2, f3, f4⟩, f18, f19⟩, rfl⟩
  refine AW_cut (fun fr h' => (Pm N d z a m b fr ∧ fget fr 18 = .int .i64 mid ∧ fget fr 19 = .int .i64 n ∧ fget fr 20 = .int .i64 st0 ∧ fget fr 21 = .int .i64 r0) ∧ h = h') ?_ ?_
  · rcases hst0 with ⟨hmm, e1, e2⟩ | ⟨hmm, e1, e2⟩
    · have hmm' : (mid : Int) < m := by omega
      have s4 : (n : Int) - b = (st0 : Int) := by omega
      simp -dsimp -implicitDefEqProofs (disch := first | omega | (simp only [stT, u_3, ag_3, sz_3, by_3, ze_3, es_3, u_4, ag_4, sz_4, by_4, ze_4, bo_4, es_4, u_9, ag_9, sz_9, by_9, ze_9, es_9, u_22, ag_22, sz_22, by_22, ze_22, es_22, u_36, f_36_0, f_36_1, f_36_2, f_36_3, f_36_4, ag_36, sz_36, by_36, ze_36, pl_36, es_36, u_47, ag_47, sz_47, by_47, ze_47, es_47, u_48, ag_48, sz_48, by_48, ze_48, es_48]; done) | (simp only [List.append_assoc, List.cons_append, List.nil_append, pre_n, pre_c, pre_a, pre_g, pre_r]; done) | (simp only [List.length_set]; done) | (simp only [List.length_set]; omega) | assumption | decide +kernel | fail) only [↓RP, RQ, isConstA, Nat.reduceEqDiff, Nat.reduceLT, Nat.reduceAdd, Int.reduceNeg, Int.reduceLT, Int.reduceLE, Int.reduceToNat, Int.reduceEq, ↓reduceIte, ite_true, ite_false, Option.toList, Nat.reduceMul, Nat.reduceSub, Nat.reduceLeDiff, ne_eq, eq_self, u_3, ag_3, sz_3, by_3, ze_3, es_3, u_4, ag_4, sz_4, by_4, ze_4, bo_4, es_4, u_9, ag_9, sz_9, by_9, ze_9, es_9, u_22, ag_22, sz_22, by_22, ze_22, es_22, u_36, f_36_0, f_36_1, f_36_2, f_36_3, f_36_4, ag_36, sz_36, by_36, ze_36, pl_36, es_36, u_47, ag_47, sz_47, by_47, ze_47, es_47, u_48, ag_48, sz_48, by_48, ze_48, es_48, ↓AW_loop, f0, f1, f2, f3, f4, f18, f19, hmm', s4, Pm]
      rw [e2]
    · have hmm' : ¬ (mid : Int) < m := by omega
      simp -dsimp -implicitDefEqProofs (disch := first | omega | (simp only [stT, u_3, ag_3, sz_3, by_3, ze_3, es_3, u_4, ag_4, sz_4, by_4, ze_4, bo_4, es_4, u_9, ag_9, sz_9, by_9, ze_9, es_9, u_22, ag_22, sz_22, by_22, ze_22, es_22, u_36, f_36_0, f_36_1, f_36_2, f_36_3, f_36_4, ag_36, sz_36, by_36, ze_36, pl_36, es_36, u_47, ag_47, sz_47, by_47, ze_47, es_47, u_48, ag_48, sz_48, by_48, ze_48, es_48]; done) | (simp only [List.append_assoc, List.cons_append, List.nil_append, pre_n, pre_c, pre_a, pre_g, pre_r]; done) | (simp only [List.length_set]; done) | (simp only [List.length_set]; omega) | assumption | decide +kernel | fail) only [↓RP, RQ, isConstA, Nat.reduceEqDiff, Nat.reduceLT, Nat.reduceAdd, Int.reduceNeg, Int.reduceLT, Int.reduceLE, Int.reduceToNat, Int.reduceEq, ↓reduceIte, ite_true, ite_false, Option.toList, Nat.reduceMul, Nat.reduceSub, Nat.reduceLeDiff, ne_eq, eq_self, u_3, ag_3, sz_3, by_3, ze_3, es_3, u_4, ag_4, sz_4, by_4, ze_4, bo_4, es_4, u_9, ag_9, sz_9, by_9, ze_9, es_9, u_22, ag_22, sz_22, by_22, ze_22, es_22, u_36, f_36_0, f_36_1, f_36_2, f_36_3, f_36_4, ag_36, sz_36, by_36, ze_36, pl_36, es_36, u_47, ag_47, sz_47, by_47, ze_47, es_47, u_48, ag_48, sz_48, by_48, ze_48, es_48, ↓AW_loop, f0, f1, f2, f3, f4, f18, f19, hmm', Pm]
      rw [e1, e2]
      exact ⟨rfl, rfl⟩
  rintro fr h' ⟨⟨⟨f0, f1, f2, f3, f4⟩, f18, f19, f20, f21⟩, rfl⟩
  refine AW_cut (fun fr h' => (Pm N d z a m b fr ∧ fget fr 18 = .int .i64 mid ∧ fget fr 19 = .int .i64 n ∧ fget fr 20 = .int .i64 st0 ∧ fget fr 21 = .int .i64 r0 ∧ fget fr 22 = .int .i64 (n - 1 : Nat)) ∧ h = h') ?_ ?_
  · simp -dsimp -implicitDefEqProofs (disch := first | omega | (simp only [stT, u_3, ag_3, sz_3, by_3, ze_3, es_3, u_4, ag_4, sz_4, by_4, ze_4, bo_4, es_4, u_9, ag_9, sz_9, by_9, ze_9, es_9, u_22, ag_22, sz_22, by_22, ze_22, es_22, u_36, f_36_0, f_36_1, f_36_2, f_36_3, f_36_4, ag_36, sz_36, by_36, ze_36, pl_36, es_36, u_47, ag_47, sz_47, by_47, ze_47, es_47, u_48, ag_48, sz_48, by_48, ze_48, es_48]; done) | (simp only [List.append_assoc, List.cons_append, List.nil_append, pre_n, pre_c, pre_a, pre_g, pre_r]; done) | (simp only [List.length_set]; done) | (simp only [List.length_set]; omega) | assumption | decide +kernel | fail) only [↓RP, RQ, isConstA, Nat.reduceEqDiff, Nat.reduceLT, Nat.reduceAdd, Int.reduceNeg, Int.reduceLT, Int.reduceLE, Int.reduceToNat, Int.reduceEq, ↓reduceIte, ite_true, ite_false, Option.toList, Nat.reduceMul, Nat.reduceSub, Nat.reduceLeDiff, ne_eq, eq_self, u_3, ag_3, sz_3, by_3, ze_3, es_3, u_4, ag_4, sz_4, by_4, ze_4, bo_4, es_4, u_9, ag_9, sz_9, by_9, ze_9, es_9, u_22, ag_22, sz_22, by_22, ze_22, es_22, u_36, f_36_0, f_36_1, f_36_2, f_36_3, f_36_4, ag_36, sz_36, by_36, ze_36, pl_36, es_36, u_47, ag_47, sz_47, by_47, ze_47, es_47, u_48, ag_48, sz_48, by_48, ze_48, es_48, ↓AW_loop, f0, f1, f2, f3, f4, f18, f19, f20, f21, s5, Pm]
  rintro fr h' ⟨⟨⟨f0, f1, f2, f3, f4⟩, f18, f19, f20, f21, f22⟩, rfl⟩
  rw [AW_seq, AW_block, AW_loop]
  refine LW_cut (fun fr h' => ∃ s, (st0 ≤ s ∧ s ≤ r0 ∧ SymF A B a m n st0 r0 s s) ∧ Pm N d z a m b fr ∧ fget fr 18 = .int .i64 mid ∧ fget fr 19 = .int .i64 n ∧ fget fr 20 = .int .i64 s ∧ RowAt h' d (P ++ (A ++ (B ++ S))) ∧ Upd h h' [d] [d]) ?_ ?_
  · refine LW_rule (fun k fr h' => ∃ s r, (k = r - s ∧ st0 ≤ s ∧ s ≤ r ∧ r ≤ r0 ∧ SymF A B a m n st0 r0 s r) ∧ (Pm N d z a m b fr ∧ fget fr 18 = .int .i64 mid ∧ fget fr 19 = .int .i64 n ∧ fget fr 20 = .int .i64 s ∧ fget fr 21 = .int .i64 r ∧ fget fr 22 = .int .i64 (n - 1 : Nat)) ∧ RowAt h' d (P ++ (A ++ (B ++ S))) ∧ Upd h h' [d] [d]) ?_ (r0 - st0) _ _
      ⟨st0, r0, ⟨rfl, Nat.le_refl _, n3, Nat.le_refl _, .inl rfl, .inl rfl⟩, ⟨⟨f0, f1, f2, f3, f4⟩, f18, f19, f20, f21, f22⟩, hd, Upd.refl _ _⟩
    rintro k fr h' ⟨s, r, ⟨hk, hs1, hsr, hr2, hF⟩, ⟨⟨f0, f1, f2, f3, f4⟩, f18, f19, f20, f21, f22⟩, hr, hu⟩
    by_cases hlt : s < r
    · have hlt' : (s : Int) < r := by omega
      have hadd : (s : Int) + r = ((s + r : Nat) : Int) := by omega
      obtain ⟨c, hc⟩ : ∃ c, (s + r) / 2 = c := ⟨_, rfl⟩
      have hw2 := half_u (s + r) (by omega)
      have hpc : ((n - 1 : Nat) : Int) - c = ((n - 1 - c : Nat) : Int) := by omega
      obtain ⟨x, hx⟩ : ∃ x, A[c - a]? = some x := ⟨_, List.getElem?_eq_getElem (by omega)⟩
      obtain ⟨y, hy⟩ : ∃ y, B[n - 1 - c - m]? = some y := ⟨_, List.getElem?_eq_getElem (by omega)⟩
      have gx := gA c (by omega) (by omega)
      have gy := gB (n - 1 - c) (by omega) (by omega)
      rw [hx] at gx
      rw [hy] at gy
      have q1 : (c : Int) < N := by omega
      have q2 : ((n - 1 - c : Nat) : Int) < N := by omega
      have l1 := row_le elE_len gx
      have l2 := row_le elE_len gy
      have c1 := flatMap_chunk elE_len _ _ _ gx
      have c2 := flatMap_chunk elE_len _ _ _ gy
      have hr' := hr
      unfold RowAt at hr'
      obtain ⟨D, hD⟩ : ∃ D, P ++ (A ++ (B ++ S)) = D := ⟨_, rfl⟩
      rw [hD] at hr' l1 l2 c1 c2
      simp -dsimp -implicitDefEqProofs (disch := first | omega | (simp only [stT, u_3, ag_3, sz_3, by_3, ze_3, es_3, u_4, ag_4, sz_4, by_4, ze_4, bo_4, es_4, u_9, ag_9, sz_9, by_9, ze_9, es_9, u_22, ag_22, sz_22, by_22, ze_22, es_22, u_36, f_36_0, f_36_1, f_36_2, f_36_3, f_36_4, ag_36, sz_36, by_36, ze_36, pl_36, es_36, u_47, ag_47, sz_47, by_47, ze_47, es_47, u_48, ag_48, sz_48, by_48, ze_48, es_48]; done) | (simp only [List.append_assoc, List.cons_append, List.nil_append, pre_n, pre_c, pre_a, pre_g, pre_r]; done) | (simp only [List.length_set]; done) | (simp only [List.length_set]; omega) | assumption | decide +kernel | fail) only [↓RP, RQ, isConstA, Nat.reduceEqDiff, Nat.reduceLT, Nat.reduceAdd, Int.reduceNeg, Int.reduceLT, Int.reduceLE, Int.reduceToNat, Int.reduceEq, ↓reduceIte, ite_true, ite_false, Option.toList, Nat.reduceMul, Nat.reduceSub, Nat.reduceLeDiff, ne_eq, eq_self, u_3, ag_3, sz_3, by_3, ze_3, es_3, u_4, ag_4, sz_4, by_4, ze_4, bo_4, es_4, u_9, ag_9, sz_9, by_9, ze_9, es_9, u_22, ag_22, sz_22, by_22, ze_22, es_22, u_36, f_36_0, f_36_1, f_36_2, f_36_3, f_36_4, ag_36, sz_36, by_36, ze_36, pl_36, es_36, u_47, ag_47, sz_47, by_47, ze_47, es_47, u_48, ag_48, sz_48, by_48, ze_48, es_48, ↓AW_loop, f0, f1, f2, f3, f4, f18, f19, f20, f21, f22, hlt', hadd, hw2, shr1, hc, hpc, hr', q1, q2, l1, l2, c1, c2, cmpV]
      refine ⟨by decide +kernel, ?_⟩
      refine (cmp_q y x (okB y (List.mem_of_getElem? hy)) (okA x (List.mem_of_getElem? hx)) _).use' fun g => ?_
      by_cases hlt2 : keyE y < keyE x
      · have hc' : keyE y - keyE x < 0 := by omega
        simp -dsimp -implicitDefEqProofs (disch := first | omega | (simp only [stT, u_3, ag_3, sz_3, by_3, ze_3, es_3, u_4, ag_4, sz_4, by_4, ze_4, bo_4, es_4, u_9, ag_9, sz_9, by_9, ze_9, es_9, u_22, ag_22, sz_22, by_22, ze_22, es_22, u_36, f_36_0, f_36_1, f_36_2, f_36_3, f_36_4, ag_36, sz_36, by_36, ze_36, pl_36, es_36, u_47, ag_47, sz_47, by_47, ze_47, es_47, u_48, ag_48, sz_48, by_48, ze_48, es_48]; done) | (simp only [List.append_assoc, List.cons_append, List.nil_append, pre_n, pre_c, pre_a, pre_g, pre_r]; done) | (simp only [List.length_set]; done) | (simp only [List.length_set]; omega) | assumption | decide +kernel | fail) only [↓RP, RQ, isConstA, Nat.reduceEqDiff, Nat.reduceLT, Nat.reduceAdd, Int.reduceNeg, Int.reduceLT, Int.reduceLE, Int.reduceToNat, Int.reduceEq, ↓reduceIte, ite_true, ite_false, Option.toList, Nat.reduceMul, Nat.reduceSub, Nat.reduceLeDiff, ne_eq, eq_self, u_3, ag_3, sz_3, by_3, ze_3, es_3, u_4, ag_4, sz_4, by_4, ze_4, bo_4, es_4, u_9, ag_9, sz_9, by_9, ze_9, es_9, u_22, ag_22, sz_22, by_22, ze_22, es_22, u_36, f_36_0, f_36_1, f_36_2, f_36_3, f_36_4, ag_36, sz_36, by_36, ze_36, pl_36, es_36, u_47, ag_47, sz_47, by_47, ze_47, es_47, u_48, ag_48, sz_48, by_48, ze_48, es_48, ↓AW_loop, f0, f1, f2, f3, f4, f18, f19, f20, f21, f22, hc', Pm]
        refine ⟨c - s, by omega, s, c, ⟨rfl, hs1, by omega, by omega, hF.1, .inr ⟨x, y, hx, hy, hlt2⟩⟩, ⟨rfl, rfl⟩, ?_, hu.more g⟩
        rw [hD]; exact blkA_app g hr'
      · have hc' : ¬ keyE y - keyE x < 0 := by omega
        simp -dsimp -implicitDefEqProofs (disch := first | omega | (simp only [stT, u_3, ag_3, sz_3, by_3, ze_3, es_3, u_4, ag_4, sz_4, by_4, ze_4, bo_4, es_4, u_9, ag_9, sz_9, by_9, ze_9, es_9, u_22, ag_22, sz_22, by_22, ze_22, es_22, u_36, f_36_0, f_36_1, f_36_2, f_36_3, f_36_4, ag_36, sz_36, by_36, ze_36, pl_36, es_36, u_47, ag_47, sz_47, by_47, ze_47, es_47, u_48, ag_48, sz_48, by_48, ze_48, es_48]; done) | (simp only [List.append_assoc, List.cons_append, List.nil_append, pre_n, pre_c, pre_a, pre_g, pre_r]; done) | (simp only [List.length_set]; done) | (simp only [List.length_set]; omega) | assumption | decide +kernel | fail) only [↓RP, RQ, isConstA, Nat.reduceEqDiff, Nat.reduceLT, Nat.reduceAdd, Int.reduceNeg, Int.reduceLT, Int.reduceLE, Int.reduceToNat, Int.reduceEq, ↓reduceIte, ite_true, ite_false, Option.toList, Nat.reduceMul, Nat.reduceSub, Nat.reduceLeDiff, ne_eq, eq_self, u_3, ag_3, sz_3, by_3, ze_3, es_3, u_4, ag_4, sz_4, by_4, ze_4, bo_4, es_4, u_9, ag_9, sz_9, by_9, ze_9, es_9, u_22, ag_22, sz_22, by_22, ze_22, es_22, u_36, f_36_0, f_36_1, f_36_2, f_36_3, f_36_4, ag_36, sz_36, by_36, ze_36, pl_36, es_36, u_47, ag_47, sz_47, by_47, ze_47, es_47, u_48, ag_48, sz_48, by_48, ze_48, es_48, ↓AW_loop, f0, f1, f2, f3, f4, f18, f19, f20, f21, f22, hc', Pm]
        refine ⟨r - (c + 1), by omega, c + 1, r, ⟨rfl, by omega, by omega, hr2, .inr ⟨x, y, ?_, ?_, by omega⟩, hF.2⟩, ⟨rfl, rfl⟩, ?_, hu.more g⟩
        · rw [show c + 1 - 1 - a = c - a by omega]; exact hx
        · rw [show n - (c + 1) - m = n - 1 - c - m by omega]; exact hy
        · rw [hD]; exact blkA_app g hr'
    · have hlt' : ¬ (s : Int) < r := by omega
      obtain rfl : s = r := by omega
      simp -dsimp -implicitDefEqProofs (disch := first | omega | (simp only [stT, u_3, ag_3, sz_3, by_3, ze_3, es_3, u_4, ag_4, sz_4, by_4, ze_4, bo_4, es_4, u_9, ag_9, sz_9, by_9, ze_9, es_9, u_22, ag_22, sz_22, by_22, ze_22, es_22, u_36, f_36_0, f_36_1, f_36_2, f_36_3, f_36_4, ag_36, sz_36, by_36, ze_36, pl_36, es_36, u_47, ag_47, sz_47, by_47, ze_47, es_47, u_48, ag_48, sz_48, by_48, ze_48, es_48]; done) | (simp only [List.append_assoc, List.cons_append, List.nil_append, pre_n, pre_c, pre_a, pre_g, pre_r]; done) | (simp only [List.length_set]; done) | (simp only [List.length_set]; omega) | assumption | decide +kernel | fail) only [↓RP, RQ, isConstA, Nat.reduceEqDiff, Nat.reduceLT, Nat.reduceAdd, Int.reduceNeg, Int.reduceLT, Int.reduceLE, Int.reduceToNat, Int.reduceEq, ↓reduceIte, ite_true, ite_false, Option.toList, Nat.reduceMul, Nat.reduceSub, Nat.reduceLeDiff, ne_eq, eq_self, u_3, ag_3, sz_3, by_3, ze_3, es_3, u_4, ag_4, sz_4, by_4, ze_4, bo_4, es_4, u_9, ag_9, sz_9, by_9, ze_9, es_9, u_22, ag_22, sz_22, by_22, ze_22, es_22, u_36, f_36_0, f_36_1, f_36_2, f_36_3, f_36_4, ag_36, sz_36, by_36, ze_36, pl_36, es_36, u_47, ag_47, sz_47, by_47, ze_47, es_47, u_48, ag_48, sz_48, by_48, ze_48, es_48, ↓AW_loop, f0, f1, f2, f3, f4, f18, f19, f20, f21, f22, hlt', Pm]
      exact ⟨s, ⟨hs1, hr2, hF⟩, rfl, hr, hu⟩
  rintro fr h' ⟨s, ⟨hs1, hs2, hF⟩, ⟨f0, f1, f2, f3, f4⟩, f18, f19, f20, hr, hu⟩
  have hAs : A = A.take (s - a) ++ A.drop (s - a) := (List.take_append_drop _ _).symm
  have hBs : B = B.take (n - s - m) ++ B.drop (n - s - m) := (List.take_append_drop _ _).symm
  have la1 : (A.take (s - a)).length = s - a := by rw [List.length_take]; omega
  have la2 : (A.drop (s - a)).length = m - s := by rw [List.length_drop]; omega
  have lb1 : (B.take (n - s - m)).length = n - s - m := by rw [List.length_take]; omega
  have lb2 : (B.drop (n - s - m)).length = b - (n - s) := by rw [List.length_drop]; omega
  have hAB : ∀ x, x ∈ A.take (s - a) → ∀ y, y ∈ B.drop (n - s - m) → keyE x ≤ keyE y := by
    intro x hx y hy
    rcases hF.1 with h1 | ⟨x', y', h1, h2, h3⟩
    · rcases n6 with h2 | h2
      · rw [show s - a = 0 by omega] at hx; simp at hx
      · rw [List.drop_of_length_le (by omega)] at hy; simp at hy
    · by_cases h0 : s = a
      · rw [show s - a = 0 by omega] at hx; simp at hx
      · rw [show s - a = s - 1 - a + 1 by omega] at hx
        have := sorted_take keyE hA h1 x hx
        have := sorted_drop keyE hB h2 y hy
        omega
  have hBA : ∀ y, y ∈ B.take (n - s - m) → ∀ x, x ∈ A.drop (s - a) → keyE y < keyE x := by
    intro y hy x hx
    rcases hF.2 with h1 | ⟨x', y', h1, h2, h3⟩
    · rcases n7 with h2 | h2
      · rw [List.drop_of_length_le (by omega)] at hx; simp at hx
      · rw [show n - s - m = 0 by omega] at hy; simp at hy
    · by_cases h0 : n - s = m
      · rw [show n - s - m = 0 by omega] at hy; simp at hy
      · rw [show n - s - m = n - 1 - s - m + 1 by omega] at hy
        have := sorted_take keyE hB h2 y hy
        have := sorted_drop keyE hA h1 x hx
        omega
  have hmg := mrg_split keyE _ _ _ _ hAB hBA
  rw [← hAs, ← hBs] at hmg
  obtain ⟨sa1, sa2⟩ := sorted_sub hA hAs
  obtain ⟨sb1, sb2⟩ := sorted_sub hB hBs
  have okA1 : ∀ x, x ∈ A.take (s - a) → okE x := fun x hx => okA x (List.mem_of_mem_take hx)
  have okA2 : ∀ x, x ∈ A.drop (s - a) → okE x := fun x hx => okA x (List.mem_of_mem_drop hx)
  have okB1 : ∀ x, x ∈ B.take (n - s - m) → okE x := fun x hx => okB x (List.mem_of_mem_take hx)
  have okB2 : ∀ x, x ∈ B.drop (n - s - m) → okE x := fun x hx => okB x (List.mem_of_mem_drop hx)
  rw [hmg]
  clear hmg hAB hBA hF gA gB
  have hr : RowAt h' d (P ++ (A.take (s - a) ++ (A.drop (s - a) ++ (B.take (n - s - m) ++ (B.drop (n - s - m) ++ S))))) := by
    have e : P ++ (A ++ (B ++ S)) = P ++ (A.take (s - a) ++ (A.drop (s - a) ++ (B.take (n - s - m) ++ (B.drop (n - s - m) ++ S)))) := by
      conv => lhs; rw [hAs, hBs]
      simp only [List.append_assoc]
    rw [← e]; exact hr
  generalize A.take (s - a) = A1 at *
  generalize A.drop (s - a) = A2 at *
  generalize B.take (n - s - m) = B1 at *
  generalize B.drop (n - s - m) = B2 at *
  have hend : (n : Int) - s = ((n - s : Nat) : Int) := by omega
  refine AW_cut (fun fr h2 => (Pm N d z a m b fr ∧ fget fr 18 = .int .i64 mid ∧ fget fr 20 = .int .i64 s ∧ fget fr 24 = .int .i64 (n - s : Nat)) ∧ h' = h2) ?_ ?_
  · simp -dsimp -implicitDefEqProofs (disch := first | omega | (simp only [stT, u_3, ag_3, sz_3, by_3, ze_3, es_3, u_4, ag_4, sz_4, by_4, ze_4, bo_4, es_4, u_9, ag_9, sz_9, by_9, ze_9, es_9, u_22, ag_22, sz_22, by_22, ze_22, es_22, u_36, f_36_0, f_36_1, f_36_2, f_36_3, f_36_4, ag_36, sz_36, by_36, ze_36, pl_36, es_36, u_47, ag_47, sz_47, by_47, ze_47, es_47, u_48, ag_48, sz_48, by_48, ze_48, es_48]; done) | (simp only [List.append_assoc, List.cons_append, List.nil_append, pre_n, pre_c, pre_a, pre_g, pre_r]; done) | (simp only [List.length_set]; done) | (simp only [List.length_set]; omega) | assumption | decide +kernel | fail) only [↓RP, RQ, isConstA, Nat.reduceEqDiff, Nat.reduceLT, Nat.reduceAdd, Int.reduceNeg, Int.reduceLT, Int.reduceLE, Int.reduceToNat, Int.reduceEq, ↓reduceIte, ite_true, ite_false, Option.toList, Nat.reduceMul, Nat.reduceSub, Nat.reduceLeDiff, ne_eq, eq_self, u_3, ag_3, sz_3, by_3, ze_3, es_3, u_4, ag_4, sz_4, by_4, ze_4, bo_4, es_4, u_9, ag_9, sz_9, by_9, ze_9, es_9, u_22, ag_22, sz_22, by_22, ze_22, es_22, u_36, f_36_0, f_36_1, f_36_2, f_36_3, f_36_4, ag_36, sz_36, by_36, ze_36, pl_36, es_36, u_47, ag_47, sz_47, by_47, ze_47, es_47, u_48, ag_48, sz_48, by_48, ze_48, es_48, ↓AW_loop, f0, f1, f2, f3, f4, f18, f19, f20, hend, Pm]
  rintro fr h' ⟨⟨⟨f0, f1, f2, f3, f4⟩, f18, f20, f24⟩, rfl⟩
  refine AW_cut (fun fr h2 => (Pm N d z a m b fr ∧ fget fr 18 = .int .i64 mid ∧ fget fr 20 = .int .i64 s ∧ fget fr 24 = .int .i64 (n - s : Nat)) ∧ RowAt h2 d (P ++ (A1 ++ (B1 ++ (A2 ++ (B2 ++ S))))) ∧ Upd h h2 [d] [d]) ?_ ?_
  · by_cases c1 : s < m
    · have c1' : (s : Int) < m := by omega
      by_cases c2 : m < n - s
      · have c2' : (m : Int) < ((n - s : Nat) : Int) := by omega
        simp -dsimp -implicitDefEqProofs (disch := first | omega | (simp only [stT, u_3, ag_3, sz_3, by_3, ze_3, es_3, u_4, ag_4, sz_4, by_4, ze_4, bo_4, es_4, u_9, ag_9, sz_9, by_9, ze_9, es_9, u_22, ag_22, sz_22, by_22, ze_22, es_22, u_36, f_36_0, f_36_1, f_36_2, f_36_3, f_36_4, ag_36, sz_36, by_36, ze_36, pl_36, es_36, u_47, ag_47, sz_47, by_47, ze_47, es_47, u_48, ag_48, sz_48, by_48, ze_48, es_48]; done) | (simp only [List.append_assoc, List.cons_append, List.nil_append, pre_n, pre_c, pre_a, pre_g, pre_r]; done) | (simp only [List.length_set]; done) | (simp only [List.length_set]; omega) | assumption | decide +kernel | fail) only [↓RP, RQ, isConstA, Nat.reduceEqDiff, Nat.reduceLT, Nat.reduceAdd, Int.reduceNeg, Int.reduceLT, Int.reduceLE, Int.reduceToNat, Int.reduceEq, ↓reduceIte, ite_true, ite_false, Option.toList, Nat.reduceMul, Nat.reduceSub, Nat.reduceLeDiff, ne_eq, eq_self, u_3, ag_3, sz_3, by_3, ze_3, es_3, u_4, ag_4, sz_4, by_4, ze_4, bo_4, es_4, u_9, ag_9, sz_9, by_9, ze_9, es_9, u_22, ag_22, sz_22, by_22, ze_22, es_22, u_36, f_36_0, f_36_1, f_36_2, f_36_3, f_36_4, ag_36, sz_36, by_36, ze_36, pl_36, es_36, u_47, ag_47, sz_47, by_47, ze_47, es_47, u_48, ag_48, sz_48, by_48, ze_48, es_48, ↓AW_loop, f0, f1, f2, f3, f4, f18, f20, f24, c1', c2']
        have e1 : P ++ (A1 ++ (A2 ++ (B1 ++ (B2 ++ S)))) = (P ++ A1) ++ (A2 ++ (B1 ++ (B2 ++ S))) := by simp
        have e2 : (P ++ A1) ++ (B1 ++ (A2 ++ (B2 ++ S))) = P ++ (A1 ++ (B1 ++ (A2 ++ (B2 ++ S)))) := by simp
        rw [e1] at hr
        have eN : ((P ++ A1) ++ (A2 ++ (B1 ++ (B2 ++ S)))).length = N := by simp only [List.length_append]; omega
        have hq := rotate_l (P ++ A1) A2 B1 (B2 ++ S) cmpV (z := z) (a := s) (m := m) (b := n - s) hr (by rw [List.length_append]; omega) (by omega) (by omega) (by omega) (by omega) (by omega)
        rw [eN, e2] at hq
        refine FW.mono hq (fun v h2 hv => ?_)
        obtain ⟨rfl, r2, u2⟩ := hv
        simp -dsimp -implicitDefEqProofs (disch := first | omega | (simp only [stT, u_3, ag_3, sz_3, by_3, ze_3, es_3, u_4, ag_4, sz_4, by_4, ze_4, bo_4, es_4, u_9, ag_9, sz_9, by_9, ze_9, es_9, u_22, ag_22, sz_22, by_22, ze_22, es_22, u_36, f_36_0, f_36_1, f_36_2, f_36_3, f_36_4, ag_36, sz_36, by_36, ze_36, pl_36, es_36, u_47, ag_47, sz_47, by_47, ze_47, es_47, u_48, ag_48, sz_48, by_48, ze_48, es_48]; done) | (simp only [List.append_assoc, List.cons_append, List.nil_append, pre_n, pre_c, pre_a, pre_g, pre_r]; done) | (simp only [List.length_set]; done) | (simp only [List.length_set]; omega) | assumption | decide +kernel | fail) only [↓RP, RQ, isConstA, Nat.reduceEqDiff, Nat.reduceLT, Nat.reduceAdd, Int.reduceNeg, Int.reduceLT, Int.reduceLE, Int.reduceToNat, Int.reduceEq, ↓reduceIte, ite_true, ite_false, Option.toList, Nat.reduceMul, Nat.reduceSub, Nat.reduceLeDiff, ne_eq, eq_self, u_3, ag_3, sz_3, by_3, ze_3, es_3, u_4, ag_4, sz_4, by_4, ze_4, bo_4, es_4, u_9, ag_9, sz_9, by_9, ze_9, es_9, u_22, ag_22, sz_22, by_22, ze_22, es_22, u_36, f_36_0, f_36_1, f_36_2, f_36_3, f_36_4, ag_36, sz_36, by_36, ze_36, pl_36, es_36, u_47, ag_47, sz_47, by_47, ze_47, es_47, u_48, ag_48, sz_48, by_48, ze_48, es_48, ↓AW_loop, f0, f1, f2, f3, f4, f18, f20, f24, Pm]
        exact ⟨r2, hu.trans u2⟩
      · have c2' : ¬ (m : Int) < ((n - s : Nat) : Int) := by omega
        simp -dsimp -implicitDefEqProofs (disch := first | omega | (simp only [stT, u_3, ag_3, sz_3, by_3, ze_3, es_3, u_4, ag_4, sz_4, by_4, ze_4, bo_4, es_4, u_9, ag_9, sz_9, by_9, ze_9, es_9, u_22, ag_22, sz_22, by_22, ze_22, es_22, u_36, f_36_0, f_36_1, f_36_2, f_36_3, f_36_4, ag_36, sz_36, by_36, ze_36, pl_36, es_36, u_47, ag_47, sz_47, by_47, ze_47, es_47, u_48, ag_48, sz_48, by_48, ze_48, es_48]; done) | (simp only [List.append_assoc, List.cons_append, List.nil_append, pre_n, pre_c, pre_a, pre_g, pre_r]; done) | (simp only [List.length_set]; done) | (simp only [List.length_set]; omega) | assumption | decide +kernel | fail) only [↓RP, RQ, isConstA, Nat.reduceEqDiff, Nat.reduceLT, Nat.reduceAdd, Int.reduceNeg, Int.reduceLT, Int.reduceLE, Int.reduceToNat, Int.reduceEq, ↓reduceIte, ite_true, ite_false, Option.toList, Nat.reduceMul, Nat.reduceSub, Nat.reduceLeDiff, ne_eq, eq_self, u_3, ag_3, sz_3, by_3, ze_3, es_3, u_4, ag_4, sz_4, by_4, ze_4, bo_4, es_4, u_9, ag_9, sz_9, by_9, ze_9, es_9, u_22, ag_22, sz_22, by_22, ze_22, es_22, u_36, f_36_0, f_36_1, f_36_2, f_36_3, f_36_4, ag_36, sz_36, by_36, ze_36, pl_36, es_36, u_47, ag_47, sz_47, by_47, ze_47, es_47, u_48, ag_48, sz_48, by_48, ze_48, es_48, ↓AW_loop, f0, f1, f2, f3, f4, f18, f20, f24, c1', c2', Pm]
        have : B1 = [] := List.length_eq_zero_iff.1 (by omega)
        subst this
        exact ⟨hr, hu⟩
    · have c1' : ¬ (s : Int) < m := by omega
      simp -dsimp -implicitDefEqProofs (disch := first | omega | (simp only [stT, u_3, ag_3, sz_3, by_3, ze_3, es_3, u_4, ag_4, sz_4, by_4, ze_4, bo_4, es_4, u_9, ag_9, sz_9, by_9, ze_9, es_9, u_22, ag_22, sz_22, by_22, ze_22, es_22, u_36, f_36_0, f_36_1, f_36_2, f_36_3, f_36_4, ag_36, sz_36, by_36, ze_36, pl_36, es_36, u_47, ag_47, sz_47, by_47, ze_47, es_47, u_48, ag_48, sz_48, by_48, ze_48, es_48]; done) | (simp only [List.append_assoc, List.cons_append, List.nil_append, pre_n, pre_c, pre_a, pre_g, pre_r]; done) | (simp only [List.length_set]; done) | (simp only [List.length_set]; omega) | assumption | decide +kernel | fail) only [↓RP, RQ, isConstA, Nat.reduceEqDiff, Nat.reduceLT, Nat.reduceAdd, Int.reduceNeg, Int.reduceLT, Int.reduceLE, Int.reduceToNat, Int.reduceEq, ↓reduceIte, ite_true, ite_false, Option.toList, Nat.reduceMul, Nat.reduceSub, Nat.reduceLeDiff, ne_eq, eq_self, u_3, ag_3, sz_3, by_3, ze_3, es_3, u_4, ag_4, sz_4, by_4, ze_4, bo_4, es_4, u_9, ag_9, sz_9, by_9, ze_9, es_9, u_22, ag_22, sz_22, by_22, ze_22, es_22, u_36, f_36_0, f_36_1, f_36_2, f_36_3, f_36_4, ag_36, sz_36, by_36, ze_36, pl_36, es_36, u_47, ag_47, sz_47, by_47, ze_47, es_47, u_48, ag_48, sz_48, by_48, ze_48, es_48, ↓AW_loop, f0, f1, f2, f3, f4, f18, f20, f24, c1', Pm]
      have : A2 = [] := List.length_eq_zero_iff.1 (by omega)
      subst this
      exact ⟨hr, hu⟩
  clear hr hu
  rintro fr h2 ⟨⟨⟨f0, f1, f2, f3, f4⟩, f18, f20, f24⟩, hr, hu⟩
  refine AW_cut (fun fr h2 => (Pm N d z a m b fr ∧ fget fr 18 = .int .i64 mid ∧ fget fr 24 = .int .i64 (n - s : Nat)) ∧ RowAt h2 d (P ++ (mrg keyE A1 B1 ++ (A2 ++ (B2 ++ S)))) ∧ Upd h h2 [d] [d]) ?_ ?_
  · by_cases c1 : a < s
    · have c1' : (a : Int) < s := by omega
      by_cases c2 : s < mid
      · have c2' : (s : Int) < mid := by omega
        simp -dsimp -implicitDefEqProofs (disch := first | omega | (simp only [stT, u_3, ag_3, sz_3, by_3, ze_3, es_3, u_4, ag_4, sz_4, by_4, ze_4, bo_4, es_4, u_9, ag_9, sz_9, by_9, ze_9, es_9, u_22, ag_22, sz_22, by_22, ze_22, es_22, u_36, f_36_0, f_36_1, f_36_2, f_36_3, f_36_4, ag_36, sz_36, by_36, ze_36, pl_36, es_36, u_47, ag_47, sz_47, by_47, ze_47, es_47, u_48, ag_48, sz_48, by_48, ze_48, es_48]; done) | (simp only [List.append_assoc, List.cons_append, List.nil_append, pre_n, pre_c, pre_a, pre_g, pre_r]; done) | (simp only [List.length_set]; done) | (simp only [List.length_set]; omega) | assumption | decide +kernel | fail) only [↓RP, RQ, isConstA, Nat.reduceEqDiff, Nat.reduceLT, Nat.reduceAdd, Int.reduceNeg, Int.reduceLT, Int.reduceLE, Int.reduceToNat, Int.reduceEq, ↓reduceIte, ite_true, ite_false, Option.toList, Nat.reduceMul, Nat.reduceSub, Nat.reduceLeDiff, ne_eq, eq_self, u_3, ag_3, sz_3, by_3, ze_3, es_3, u_4, ag_4, sz_4, by_4, ze_4, bo_4, es_4, u_9, ag_9, sz_9, by_9, ze_9, es_9, u_22, ag_22, sz_22, by_22, ze_22, es_22, u_36, f_36_0, f_36_1, f_36_2, f_36_3, f_36_4, ag_36, sz_36, by_36, ze_36, pl_36, es_36, u_47, ag_47, sz_47, by_47, ze_47, es_47, u_48, ag_48, sz_48, by_48, ze_48, es_48, ↓AW_loop, f0, f1, f2, f3, f4, f18, f20, f24, c1', c2']
        have eN : (P ++ (A1 ++ (B1 ++ (A2 ++ (B2 ++ S))))).length = N := by simp only [List.length_append]; omega
        have hq := ih P A1 B1 (A2 ++ (B2 ++ S)) (z := z) (a := a) (m := s) (b := mid) (by omega) (by omega) (by omega) hr ha (by omega) (by omega) sa1 sb1 okA1 okB1 (by omega)
        rw [eN] at hq
        refine FW.mono hq (fun v h3 hv => ?_)
        obtain ⟨rfl, r2, u2⟩ := hv
        simp -dsimp -implicitDefEqProofs (disch := first | omega | (simp only [stT, u_3, ag_3, sz_3, by_3, ze_3, es_3, u_4, ag_4, sz_4, by_4, ze_4, bo_4, es_4, u_9, ag_9, sz_9, by_9, ze_9, es_9, u_22, ag_22, sz_22, by_22, ze_22, es_22, u_36, f_36_0, f_36_1, f_36_2, f_36_3, f_36_4, ag_36, sz_36, by_36, ze_36, pl_36, es_36, u_47, ag_47, sz_47, by_47, ze_47, es_47, u_48, ag_48, sz_48, by_48, ze_48, es_48]; done) | (simp only [List.append_assoc, List.cons_append, List.nil_append, pre_n, pre_c, pre_a, pre_g, pre_r]; done) | (simp only [List.length_set]; done) | (simp only [List.length_set]; omega) | assumption | decide +kernel | fail) only [↓RP, RQ, isConstA, Nat.reduceEqDiff, Nat.reduceLT, Nat.reduceAdd, Int.reduceNeg, Int.reduceLT, Int.reduceLE, Int.reduceToNat, Int.reduceEq, ↓reduceIte, ite_true, ite_false, Option.toList, Nat.reduceMul, Nat.reduceSub, Nat.reduceLeDiff, ne_eq, eq_self, u_3, ag_3, sz_3, by_3, ze_3, es_3, u_4, ag_4, sz_4, by_4, ze_4, bo_4, es_4, u_9, ag_9, sz_9, by_9, ze_9, es_9, u_22, ag_22, sz_22, by_22, ze_22, es_22, u_36, f_36_0, f_36_1, f_36_2, f_36_3, f_36_4, ag_36, sz_36, by_36, ze_36, pl_36, es_36, u_47, ag_47, sz_47, by_47, ze_47, es_47, u_48, ag_48, sz_48, by_48, ze_48, es_48, ↓AW_loop, f0, f1, f2, f3, f4, f18, f20, f24, Pm]
        exact ⟨r2, hu.trans u2⟩
      · have c2' : ¬ (s : Int) < mid := by omega
        simp -dsimp -implicitDefEqProofs (disch := first | omega | (simp only [stT, u_3, ag_3, sz_3, by_3, ze_3, es_3, u_4, ag_4, sz_4, by_4, ze_4, bo_4, es_4, u_9, ag_9, sz_9, by_9, ze_9, es_9, u_22, ag_22, sz_22, by_22, ze_22, es_22, u_36, f_36_0, f_36_1, f_36_2, f_36_3, f_36_4, ag_36, sz_36, by_36, ze_36, pl_36, es_36, u_47, ag_47, sz_47, by_47, ze_47, es_47, u_48, ag_48, sz_48, by_48, ze_48, es_48]; done) | (simp only [List.append_assoc, List.cons_append, List.nil_append, pre_n, pre_c, pre_a, pre_g, pre_r]; done) | (simp only [List.length_set]; done) | (simp only [List.length_set]; omega) | assumption | decide +kernel | fail) only [↓RP, RQ, isConstA, Nat.reduceEqDiff, Nat.reduceLT, Nat.reduceAdd, Int.reduceNeg, Int.reduceLT, Int.reduceLE, Int.reduceToNat, Int.reduceEq, ↓reduceIte, ite_true, ite_false, Option.toList, Nat.reduceMul, Nat.reduceSub, Nat.reduceLeDiff, ne_eq, eq_self, u_3, ag_3, sz_3, by_3, ze_3, es_3, u_4, ag_4, sz_4, by_4, ze_4, bo_4, es_4, u_9, ag_9, sz_9, by_9, ze_9, es_9, u_22, ag_22, sz_22, by_22, ze_22, es_22, u_36, f_36_0, f_36_1, f_36_2, f_36_3, f_36_4, ag_36, sz_36, by_36, ze_36, pl_36, es_36, u_47, ag_47, sz_47, by_47, ze_47, es_47, u_48, ag_48, sz_48, by_48, ze_48, es_48, ↓AW_loop, f0, f1, f2, f3, f4, f18, f20, f24, c1', c2', Pm]
        have : B1 = [] := List.length_eq_zero_iff.1 (by omega)
        subst this
        rw [mrg_nil_right]
        exact ⟨hr, hu⟩
    · have c1' : ¬ (a : Int) < s := by omega
      simp -dsimp -implicitDefEqProofs (disch := first | omega | (simp only [stT, u_3, ag_3, sz_3, by_3, ze_3, es_3, u_4, ag_4, sz_4, by_4, ze_4, bo_4, es_4, u_9, ag_9, sz_9, by_9, ze_9, es_9, u_22, ag_22, sz_22, by_22, ze_22, es_22, u_36, f_36_0, f_36_1, f_36_2, f_36_3, f_36_4, ag_36, sz_36, by_36, ze_36, pl_36, es_36, u_47, ag_47, sz_47, by_47, ze_47, es_47, u_48, ag_48, sz_48, by_48, ze_48, es_48]; done) | (simp only [List.append_assoc, List.cons_append, List.nil_append, pre_n, pre_c, pre_a, pre_g, pre_r]; done) | (simp only [List.length_set]; done) | (simp only [List.length_set]; omega) | assumption | decide +kernel | fail) only [↓RP, RQ, isConstA, Nat.reduceEqDiff, Nat.reduceLT, Nat.reduceAdd, Int.reduceNeg, Int.reduceLT, Int.reduceLE, Int.reduceToNat, Int.reduceEq, ↓reduceIte, ite_true, ite_false, Option.toList, Nat.reduceMul, Nat.reduceSub, Nat.reduceLeDiff, ne_eq, eq_self, u_3, ag_3, sz_3, by_3, ze_3, es_3, u_4, ag_4, sz_4, by_4, ze_4, bo_4, es_4, u_9, ag_9, sz_9, by_9, ze_9, es_9, u_22, ag_22, sz_22, by_22, ze_22, es_22, u_36, f_36_0, f_36_1, f_36_2, f_36_3, f_36_4, ag_36, sz_36, by_36, ze_36, pl_36, es_36, u_47, ag_47, sz_47, by_47, ze_47, es_47, u_48, ag_48, sz_48, by_48, ze_48, es_48, ↓AW_loop, f0, f1, f2, f3, f4, f18, f20, f24, c1', Pm]
      have : A1 = [] := List.length_eq_zero_iff.1 (by omega)
      subst this
      rw [mrg_nil_left]
      exact ⟨hr, hu⟩
  clear hr hu
  rintro fr h2 ⟨⟨⟨f0, f1, f2, f3, f4⟩, f18, f24⟩, hr, hu⟩
  have lm := mrg_length keyE A1 B1
  have e1 : P ++ (mrg keyE A1 B1 ++ (A2 ++ (B2 ++ S))) = (P ++ mrg keyE A1 B1) ++ (A2 ++ (B2 ++ S)) := by simp
  have e2 : ∀ X : List El, (P ++ mrg keyE A1 B1) ++ (X ++ S) = P ++ (mrg keyE A1 B1 ++ X ++ S) := fun X => by simp
  rw [e1] at hr
  by_cases c1 : mid < n - s
  · have c1' : (mid : Int) < ((n - s : Nat) : Int) := by omega
    by_cases c2 : n - s < b
    · have c2' : ((n - s : Nat) : Int) < b := by omega
      simp -dsimp -implicitDefEqProofs (disch := first | omega | (simp only [stT, u_3, ag_3, sz_3, by_3, ze_3, es_3, u_4, ag_4, sz_4, by_4, ze_4, bo_4, es_4, u_9, ag_9, sz_9, by_9, ze_9, es_9, u_22, ag_22, sz_22, by_22, ze_22, es_22, u_36, f_36_0, f_36_1, f_36_2, f_36_3, f_36_4, ag_36, sz_36, by_36, ze_36, pl_36, es_36, u_47, ag_47, sz_47, by_47, ze_47, es_47, u_48, ag_48, sz_48, by_48, ze_48, es_48]; done) | (simp only [List.append_assoc, List.cons_append, List.nil_append, pre_n, pre_c, pre_a, pre_g, pre_r]; done) | (simp only [List.length_set]; done) | (simp only [List.length_set]; omega) | assumption | decide +kernel | fail) only [↓RP, RQ, isConstA, Nat.reduceEqDiff, Nat.reduceLT, Nat.reduceAdd, Int.reduceNeg, Int.reduceLT, Int.reduceLE, Int.reduceToNat, Int.reduceEq, ↓reduceIte, ite_true, ite_false, Option.toList, Nat.reduceMul, Nat.reduceSub, Nat.reduceLeDiff, ne_eq, eq_self, u_3, ag_3, sz_3, by_3, ze_3, es_3, u_4, ag_4, sz_4, by_4, ze_4, bo_4, es_4, u_9, ag_9, sz_9, by_9, ze_9, es_9, u_22, ag_22, sz_22, by_22, ze_22, es_22, u_36, f_36_0, f_36_1, f_36_2, f_36_3, f_36_4, ag_36, sz_36, by_36, ze_36, pl_36, es_36, u_47, ag_47, sz_47, by_47, ze_47, es_47, u_48, ag_48, sz_48, by_48, ze_48, es_48, ↓AW_loop, f0, f1, f2, f3, f4, f18, f24, c1', c2']
      have eN : ((P ++ mrg keyE A1 B1) ++ (A2 ++ (B2 ++ S))).length = N := by simp only [List.length_append]; omega
      have hq := ih (P ++ mrg keyE A1 B1) A2 B2 S (z := z) (a := mid) (m := n - s) (b := b) (by omega) (by omega) (by omega) hr (by rw [List.length_append]; omega) (by omega) (by omega) sa2 sb2 okA2 okB2 (by omega)
      rw [eN, e2] at hq
      refine FW.mono hq (fun v h3 hv => ?_)
      obtain ⟨rfl, r2, u2⟩ := hv
      simp -dsimp -implicitDefEqProofs (disch := first | omega | (simp only [stT, u_3, ag_3, sz_3, by_3, ze_3, es_3, u_4, ag_4, sz_4, by_4, ze_4, bo_4, es_4, u_9, ag_9, sz_9, by_9, ze_9, es_9, u_22, ag_22, sz_22, by_22, ze_22, es_22, u_36, f_36_0, f_36_1, f_36_2, f_36_3, f_36_4, ag_36, sz_36, by_36, ze_36, pl_36, es_36, u_47, ag_47, sz_47, by_47, ze_47, es_47, u_48, ag_48, sz_48, by_48, ze_48, es_48]; done) | (simp only [List.append_assoc, List.cons_append, List.nil_append, pre_n, pre_c, pre_a, pre_g, pre_r]; done) | (simp only [List.length_set]; done) | (simp only [List.length_set]; omega) | assumption | decide +kernel | fail) only [↓RP, RQ, isConstA, Nat.reduceEqDiff, Nat.reduceLT, Nat.reduceAdd, Int.reduceNeg, Int.reduceLT, Int.reduceLE, Int.reduceToNat, Int.reduceEq, ↓reduceIte, ite_true, ite_false, Option.toList, Nat.reduceMul, Nat.reduceSub, Nat.reduceLeDiff, ne_eq, eq_self, u_3, ag_3, sz_3, by_3, ze_3, es_3, u_4, ag_4, sz_4, by_4, ze_4, bo_4, es_4, u_9, ag_9, sz_9, by_9, ze_9, es_9, u_22, ag_22, sz_22, by_22, ze_22, es_22, u_36, f_36_0, f_36_1, f_36_2, f_36_3, f_36_4, ag_36, sz_36, by_36, ze_36, pl_36, es_36, u_47, ag_47, sz_47, by_47, ze_47, es_47, u_48, ag_48, sz_48, by_48, ze_48, es_48, ↓AW_loop, f0, f1, f2, f3, f4, f18, f24]
      rw [List.append_assoc] at r2
      exact ⟨r2, hu.trans u2⟩
    · have c2' : ¬ ((n - s : Nat) : Int) < b := by omega
      simp -dsimp -implicitDefEqProofs (disch := first | omega | (simp only [stT, u_3, ag_3, sz_3, by_3, ze_3, es_3, u_4, ag_4, sz_4, by_4, ze_4, bo_4, es_4, u_9, ag_9, sz_9, by_9, ze_9, es_9, u_22, ag_22, sz_22, by_22, ze_22, es_22, u_36, f_36_0, f_36_1, f_36_2, f_36_3, f_36_4, ag_36, sz_36, by_36, ze_36, pl_36, es_36, u_47, ag_47, sz_47, by_47, ze_47, es_47, u_48, ag_48, sz_48, by_48, ze_48, es_48]; done) | (simp only [List.append_assoc, List.cons_append, List.nil_append, pre_n, pre_c, pre_a, pre_g, pre_r]; done) | (simp only [List.length_set]; done) | (simp only [List.length_set]; omega) | assumption | decide +kernel | fail) only [↓RP, RQ, isConstA, Nat.reduceEqDiff, Nat.reduceLT, Nat.reduceAdd, Int.reduceNeg, Int.reduceLT, Int.reduceLE, Int.reduceToNat, Int.reduceEq, ↓reduceIte, ite_true, ite_false, Option.toList, Nat.reduceMul, Nat.reduceSub, Nat.reduceLeDiff, ne_eq, eq_self, u_3, ag_3, sz_3, by_3, ze_3, es_3, u_4, ag_4, sz_4, by_4, ze_4, bo_4, es_4, u_9, ag_9, sz_9, by_9, ze_9, es_9, u_22, ag_22, sz_22, by_22, ze_22, es_22, u_36, f_36_0, f_36_1, f_36_2, f_36_3, f_36_4, ag_36, sz_36, by_36, ze_36, pl_36, es_36, u_47, ag_47, sz_47, by_47, ze_47, es_47, u_48, ag_48, sz_48, by_48, ze_48, es_48, ↓AW_loop, f0, f1, f2, f3, f4, f18, f24, c1', c2']
      have : B2 = [] := List.length_eq_zero_iff.1 (by omega)
      subst this
      rw [mrg_nil_right]
      rw [List.nil_append, e2, List.append_assoc] at hr
      exact ⟨hr, hu⟩
  · have c1' : ¬ (mid : Int) < ((n - s : Nat) : Int) := by omega
    simp -dsimp -implicitDefEqProofs (disch := first | omega | (simp only [stT, u_3, ag_3, sz_3, by_3, ze_3, es_3, u_4, ag_4, sz_4, by_4, ze_4, bo_4, es_4, u_9, ag_9, sz_9, by_9, ze_9, es_9, u_22, ag_22, sz_22, by_22, ze_22, es_22, u_36, f_36_0, f_36_1, f_36_2, f_36_3, f_36_4, ag_36, sz_36, by_36, ze_36, pl_36, es_36, u_47, ag_47, sz_47, by_47, ze_47, es_47, u_48, ag_48, sz_48, by_48, ze_48, es_48]; done) | (simp only [List.append_assoc, List.cons_append, List.nil_append, pre_n, pre_c, pre_a, pre_g, pre_r]; done) | (simp only [List.length_set]; done) | (simp only [List.length_set]; omega) | assumption | decide +kernel | fail) only [↓RP, RQ, isConstA, Nat.reduceEqDiff, Nat.reduceLT, Nat.reduceAdd, Int.reduceNeg, Int.reduceLT, Int.reduceLE, Int.reduceToNat, Int.reduceEq, ↓reduceIte, ite_true, ite_false, Option.toList, Nat.reduceMul, Nat.reduceSub, Nat.reduceLeDiff, ne_eq, eq_self, u_3, ag_3, sz_3, by_3, ze_3, es_3, u_4, ag_4, sz_4, by_4, ze_4, bo_4, es_4, u_9, ag_9, sz_9, by_9, ze_9, es_9, u_22, ag_22, sz_22, by_22, ze_22, es_22, u_36, f_36_0, f_36_1, f_36_2, f_36_3, f_36_4, ag_36, sz_36, by_36, ze_36, pl_36, es_36, u_47, ag_47, sz_47, by_47, ze_47, es_47, u_48, ag_48, sz_48, by_48, ze_48, es_48, ↓AW_loop, f0, f1, f2, f3, f4, f18, f24, c1']
    have : A2 = [] := List.length_eq_zero_iff.1 (by omega)
    subst this
    rw [mrg_nil_left]
    rw [List.nil_append, e2, List.append_assoc] at hr
    exact ⟨hr, hu⟩
theorem sym_ok : ∀ M, SymOK M
  | 0 => fun P A B S h d z a m b hM hA hB => by omega
  | M + 1 => fun P A B S h d z a m b hM hA hB hd ha hm hb sA sB okA okB hl => by
    by_cases c1 : A.length = 1
    · obtain ⟨x, rfl⟩ := List.length_eq_one_iff.1 c1
      exact symA_q P B S x hd ha hm hb hB sB (okA x (by simp)) okB hl
    · by_cases c2 : B.length = 1
      · obtain ⟨y, rfl⟩ := List.length_eq_one_iff.1 c2
        exact symB_q P A S y hd ha hm hb (by omega) sA (okB y (by simp)) okA hl
      · exact symC_q M (sym_ok M) P A B S hM (by omega) (by omega) hd ha hm hb sA sB okA okB hl
end Go.Abs
/- Pm6: the walks of the library's stable sort, of forty elements at most. Conditions: none. -/
set_option maxRecDepth 100000
set_option linter.unusedSimpArgs false
set_option linter.unusedVariables false
set_option maxHeartbeats 4000000
namespace Go.Abs
open Go.Proofs Go.Abs.Srt
theorem ins_none (a : Nat) {h : AHeap} {s : Value} {b : Nat} (hab : b ≤ a + 1) (ha : a < 2 ^ 40) : FW cx 25 [s, .int .i64 a, .int .i64 b, cmpV] h fun v h' => v = .tuple #[] ∧ h = h' := by
  refine FW_f Try.func25 rfl (by decide +kernel) ?_
  have h1 : (a : Int) + 1 = ((a + 1 : Nat) : Int) := by omega
  simp -dsimp -implicitDefEqProofs (disch := first | omega | (simp only [stT, u_3, ag_3, sz_3, by_3, ze_3, es_3, u_4, ag_4, sz_4, by_4, ze_4, bo_4, es_4, u_9, ag_9, sz_9, by_9, ze_9, es_9, u_22, ag_22, sz_22, by_22, ze_22, es_22, u_36, f_36_0, f_36_1, f_36_2, f_36_3, f_36_4, ag_36, sz_36, by_36, ze_36, pl_36, es_36, u_47, ag_47, sz_47, by_47, ze_47, es_47]; done) | (simp only [List.append_assoc, List.cons_append, List.nil_append, pre_n, pre_c, pre_a, pre_g, pre_r]; done) | (simp only [List.length_set]; done) | (simp only [List.length_set]; omega) | assumption | decide +kernel | fail) only [↓RP, RQ, isConstA, Nat.reduceEqDiff, Nat.reduceLT, Nat.reduceAdd, Int.reduceNeg, Int.reduceLT, Int.reduceLE, Int.reduceToNat, Int.reduceEq, ↓reduceIte, ite_true, ite_false, Option.toList, Nat.reduceMul, Nat.reduceSub, Nat.reduceLeDiff, ne_eq, eq_self, u_3, ag_3, sz_3, by_3, ze_3, es_3, u_4, ag_4, sz_4, by_4, ze_4, bo_4, es_4, u_9, ag_9, sz_9, by_9, ze_9, es_9, u_22, ag_22, sz_22, by_22, ze_22, es_22, u_36, f_36_0, f_36_1, f_36_2, f_36_3, f_36_4, ag_36, sz_36, by_36, ze_36, pl_36, es_36, u_47, ag_47, sz_47, by_47, ze_47, es_47, ↓AW_loop, h1]
  refine LW_unfold ?_
  have hab' : ¬ ((a + 1 : Nat) : Int) < b := by omega
  simp -dsimp -implicitDefEqProofs (disch := first | omega | (simp only [stT, u_3, ag_3, sz_3, by_3, ze_3, es_3, u_4, ag_4, sz_4, by_4, ze_4, bo_4, es_4, u_9, ag_9, sz_9, by_9, ze_9, es_9, u_22, ag_22, sz_22, by_22, ze_22, es_22, u_36, f_36_0, f_36_1, f_36_2, f_36_3, f_36_4, ag_36, sz_36, by_36, ze_36, pl_36, es_36, u_47, ag_47, sz_47, by_47, ze_47, es_47]; done) | (simp only [List.append_assoc, List.cons_append, List.nil_append, pre_n, pre_c, pre_a, pre_g, pre_r]; done) | (simp only [List.length_set]; done) | (simp only [List.length_set]; omega) | assumption | decide +kernel | fail) only [↓RP, RQ, isConstA, Nat.reduceEqDiff, Nat.reduceLT, Nat.reduceAdd, Int.reduceNeg, Int.reduceLT, Int.reduceLE, Int.reduceToNat, Int.reduceEq, ↓reduceIte, ite_true, ite_false, Option.toList, Nat.reduceMul, Nat.reduceSub, Nat.reduceLeDiff, ne_eq, eq_self, u_3, ag_3, sz_3, by_3, ze_3, es_3, u_4, ag_4, sz_4, by_4, ze_4, bo_4, es_4, u_9, ag_9, sz_9, by_9, ze_9, es_9, u_22, ag_22, sz_22, by_22, ze_22, es_22, u_36, f_36_0, f_36_1, f_36_2, f_36_3, f_36_4, ag_36, sz_36, by_36, ze_36, pl_36, es_36, u_47, ag_47, sz_47, by_47, ze_47, es_47, ↓AW_loop, hab']
theorem stable_none {h : AHeap} : FW cx 23 [.slice none 0 0, .int .i64 0, cmpV] h fun v h' => v = .tuple #[] ∧ h = h' := by
  refine FW_f Try.func23 rfl (by decide +kernel) ?_
  simp -dsimp -implicitDefEqProofs (disch := first | omega | (simp only [stT, u_3, ag_3, sz_3, by_3, ze_3, es_3, u_4, ag_4, sz_4, by_4, ze_4, bo_4, es_4, u_9, ag_9, sz_9, by_9, ze_9, es_9, u_22, ag_22, sz_22, by_22, ze_22, es_22, u_36, f_36_0, f_36_1, f_36_2, f_36_3, f_36_4, ag_36, sz_36, by_36, ze_36, pl_36, es_36, u_47, ag_47, sz_47, by_47, ze_47, es_47]; done) | (simp only [List.append_assoc, List.cons_append, List.nil_append, pre_n, pre_c, pre_a, pre_g, pre_r]; done) | (simp only [List.length_set]; done) | (simp only [List.length_set]; omega) | assumption | decide +kernel | fail) only [↓RP, RQ, isConstA, Nat.reduceEqDiff, Nat.reduceLT, Nat.reduceAdd, Int.reduceNeg, Int.reduceLT, Int.reduceLE, Int.reduceToNat, Int.reduceEq, ↓reduceIte, ite_true, ite_false, Option.toList, Nat.reduceMul, Nat.reduceSub, Nat.reduceLeDiff, ne_eq, eq_self, u_3, ag_3, sz_3, by_3, ze_3, es_3, u_4, ag_4, sz_4, by_4, ze_4, bo_4, es_4, u_9, ag_9, sz_9, by_9, ze_9, es_9, u_22, ag_22, sz_22, by_22, ze_22, es_22, u_36, f_36_0, f_36_1, f_36_2, f_36_3, f_36_4, ag_36, sz_36, by_36, ze_36, pl_36, es_36, u_47, ag_47, sz_47, by_47, ze_47, es_47, ↓AW_loop]
  refine LW_unfold ?_
  simp -dsimp -implicitDefEqProofs (disch := first | omega | (simp only [stT, u_3, ag_3, sz_3, by_3, ze_3, es_3, u_4, ag_4, sz_4, by_4, ze_4, bo_4, es_4, u_9, ag_9, sz_9, by_9, ze_9, es_9, u_22, ag_22, sz_22, by_22, ze_22, es_22, u_36, f_36_0, f_36_1, f_36_2, f_36_3, f_36_4, ag_36, sz_36, by_36, ze_36, pl_36, es_36, u_47, ag_47, sz_47, by_47, ze_47, es_47]; done) | (simp only [List.append_assoc, List.cons_append, List.nil_append, pre_n, pre_c, pre_a, pre_g, pre_r]; done) | (simp only [List.length_set]; done) | (simp only [List.length_set]; omega) | assumption | decide +kernel | fail) only [↓RP, RQ, isConstA, Nat.reduceEqDiff, Nat.reduceLT, Nat.reduceAdd, Int.reduceNeg, Int.reduceLT, Int.reduceLE, Int.reduceToNat, Int.reduceEq, ↓reduceIte, ite_true, ite_false, Option.toList, Nat.reduceMul, Nat.reduceSub, Nat.reduceLeDiff, ne_eq, eq_self, u_3, ag_3, sz_3, by_3, ze_3, es_3, u_4, ag_4, sz_4, by_4, ze_4, bo_4, es_4, u_9, ag_9, sz_9, by_9, ze_9, es_9, u_22, ag_22, sz_22, by_22, ze_22, es_22, u_36, f_36_0, f_36_1, f_36_2, f_36_3, f_36_4, ag_36, sz_36, by_36, ze_36, pl_36, es_36, u_47, ag_47, sz_47, by_47, ze_47, es_47, ↓AW_loop]
  refine FW.mono (ins_none 0 (b := 0) (by omega) (by omega)) (fun v h2 hv => ?_)
  obtain ⟨rfl, rfl⟩ := hv
  simp -dsimp -implicitDefEqProofs (disch := first | omega | (simp only [stT, u_3, ag_3, sz_3, by_3, ze_3, es_3, u_4, ag_4, sz_4, by_4, ze_4, bo_4, es_4, u_9, ag_9, sz_9, by_9, ze_9, es_9, u_22, ag_22, sz_22, by_22, ze_22, es_22, u_36, f_36_0, f_36_1, f_36_2, f_36_3, f_36_4, ag_36, sz_36, by_36, ze_36, pl_36, es_36, u_47, ag_47, sz_47, by_47, ze_47, es_47]; done) | (simp only [List.append_assoc, List.cons_append, List.nil_append, pre_n, pre_c, pre_a, pre_g, pre_r]; done) | (simp only [List.length_set]; done) | (simp only [List.length_set]; omega) | assumption | decide +kernel | fail) only [↓RP, RQ, isConstA, Nat.reduceEqDiff, Nat.reduceLT, Nat.reduceAdd, Int.reduceNeg, Int.reduceLT, Int.reduceLE, Int.reduceToNat, Int.reduceEq, ↓reduceIte, ite_true, ite_false, Option.toList, Nat.reduceMul, Nat.reduceSub, Nat.reduceLeDiff, ne_eq, eq_self, u_3, ag_3, sz_3, by_3, ze_3, es_3, u_4, ag_4, sz_4, by_4, ze_4, bo_4, es_4, u_9, ag_9, sz_9, by_9, ze_9, es_9, u_22, ag_22, sz_22, by_22, ze_22, es_22, u_36, f_36_0, f_36_1, f_36_2, f_36_3, f_36_4, ag_36, sz_36, by_36, ze_36, pl_36, es_36, u_47, ag_47, sz_47, by_47, ze_47, es_47, ↓AW_loop]
  refine LW_unfold ?_
  simp -dsimp -implicitDefEqProofs (disch := first | omega | (simp only [stT, u_3, ag_3, sz_3, by_3, ze_3, es_3, u_4, ag_4, sz_4, by_4, ze_4, bo_4, es_4, u_9, ag_9, sz_9, by_9, ze_9, es_9, u_22, ag_22, sz_22, by_22, ze_22, es_22, u_36, f_36_0, f_36_1, f_36_2, f_36_3, f_36_4, ag_36, sz_36, by_36, ze_36, pl_36, es_36, u_47, ag_47, sz_47, by_47, ze_47, es_47]; done) | (simp only [List.append_assoc, List.cons_append, List.nil_append, pre_n, pre_c, pre_a, pre_g, pre_r]; done) | (simp only [List.length_set]; done) | (simp only [List.length_set]; omega) | assumption | decide +kernel | fail) only [↓RP, RQ, isConstA, Nat.reduceEqDiff, Nat.reduceLT, Nat.reduceAdd, Int.reduceNeg, Int.reduceLT, Int.reduceLE, Int.reduceToNat, Int.reduceEq, ↓reduceIte, ite_true, ite_false, Option.toList, Nat.reduceMul, Nat.reduceSub, Nat.reduceLeDiff, ne_eq, eq_self, u_3, ag_3, sz_3, by_3, ze_3, es_3, u_4, ag_4, sz_4, by_4, ze_4, bo_4, es_4, u_9, ag_9, sz_9, by_9, ze_9, es_9, u_22, ag_22, sz_22, by_22, ze_22, es_22, u_36, f_36_0, f_36_1, f_36_2, f_36_3, f_36_4, ag_36, sz_36, by_36, ze_36, pl_36, es_36, u_47, ag_47, sz_47, by_47, ze_47, es_47, ↓AW_loop]
theorem sort_none {h : AHeap} : FW cx 18 [.slice none 0 0, cmpV] h fun v h' => v = .tuple #[] ∧ h = h' := by
  refine FW_f Try.func18 rfl (by decide +kernel) ?_
  simp -dsimp -implicitDefEqProofs (disch := first | omega | (simp only [stT, u_3, ag_3, sz_3, by_3, ze_3, es_3, u_4, ag_4, sz_4, by_4, ze_4, bo_4, es_4, u_9, ag_9, sz_9, by_9, ze_9, es_9, u_22, ag_22, sz_22, by_22, ze_22, es_22, u_36, f_36_0, f_36_1, f_36_2, f_36_3, f_36_4, ag_36, sz_36, by_36, ze_36, pl_36, es_36, u_47, ag_47, sz_47, by_47, ze_47, es_47]; done) | (simp only [List.append_assoc, List.cons_append, List.nil_append, pre_n, pre_c, pre_a, pre_g, pre_r]; done) | (simp only [List.length_set]; done) | (simp only [List.length_set]; omega) | assumption | decide +kernel | fail) only [↓RP, RQ, isConstA, Nat.reduceEqDiff, Nat.reduceLT, Nat.reduceAdd, Int.reduceNeg, Int.reduceLT, Int.reduceLE, Int.reduceToNat, Int.reduceEq, ↓reduceIte, ite_true, ite_false, Option.toList, Nat.reduceMul, Nat.reduceSub, Nat.reduceLeDiff, ne_eq, eq_self, u_3, ag_3, sz_3, by_3, ze_3, es_3, u_4, ag_4, sz_4, by_4, ze_4, bo_4, es_4, u_9, ag_9, sz_9, by_9, ze_9, es_9, u_22, ag_22, sz_22, by_22, ze_22, es_22, u_36, f_36_0, f_36_1, f_36_2, f_36_3, f_36_4, ag_36, sz_36, by_36, ze_36, pl_36, es_36, u_47, ag_47, sz_47, by_47, ze_47, es_47, ↓AW_loop]
  refine FW.mono stable_none (fun v h2 hv => ?_)
  obtain ⟨rfl, rfl⟩ := hv
  simp -dsimp -implicitDefEqProofs (disch := first | omega | (simp only [stT, u_3, ag_3, sz_3, by_3, ze_3, es_3, u_4, ag_4, sz_4, by_4, ze_4, bo_4, es_4, u_9, ag_9, sz_9, by_9, ze_9, es_9, u_22, ag_22, sz_22, by_22, ze_22, es_22, u_36, f_36_0, f_36_1, f_36_2, f_36_3, f_36_4, ag_36, sz_36, by_36, ze_36, pl_36, es_36, u_47, ag_47, sz_47, by_47, ze_47, es_47]; done) | (simp only [List.append_assoc, List.cons_append, List.nil_append, pre_n, pre_c, pre_a, pre_g, pre_r]; done) | (simp only [List.length_set]; done) | (simp only [List.length_set]; omega) | assumption | decide +kernel | fail) only [↓RP, RQ, isConstA, Nat.reduceEqDiff, Nat.reduceLT, Nat.reduceAdd, Int.reduceNeg, Int.reduceLT, Int.reduceLE, Int.reduceToNat, Int.reduceEq, ↓reduceIte, ite_true, ite_false, Option.toList, Nat.reduceMul, Nat.reduceSub, Nat.reduceLeDiff, ne_eq, eq_self, u_3, ag_3, sz_3, by_3, ze_3, es_3, u_4, ag_4, sz_4, by_4, ze_4, bo_4, es_4, u_9, ag_9, sz_9, by_9, ze_9, es_9, u_22, ag_22, sz_22, by_22, ze_22, es_22, u_36, f_36_0, f_36_1, f_36_2, f_36_3, f_36_4, ag_36, sz_36, by_36, ze_36, pl_36, es_36, u_47, ag_47, sz_47, by_47, ze_47, es_47, ↓AW_loop]
theorem k1 : (20 : Int) + 20 = 40 := rfl
theorem k2 : (2 : Int) * 20 = 40 := rfl
theorem k3 : (40 : Int) + 20 = 60 := rfl
theorem k4 : (40 : Int) + 40 = 80 := rfl
theorem k5 : (20 : Int) * 2 = 40 := rfl
theorem k6 : (0 : Int) + 20 = 20 := rfl
theorem stable_q (L : List El) {h : AHeap} {d z : Nat} (hd : RowAt h d L) (hl : L.length ≤ 40) (hok : ∀ x, x ∈ L → okE x) : FW cx 23 [.slice (some ⟨d, 0, none⟩) L.length z, .int .i64 L.length, cmpV] h fun v h' => v = .tuple #[] ∧ RowAt h' d (isort keyE L) ∧ Upd h h' [d] [d] := by
  refine FW_f Try.func23 rfl (by decide +kernel) ?_
  by_cases c1 : L.length < 20
  · have c1' : ¬ (20 : Int) ≤ L.length := by omega
    simp -dsimp -implicitDefEqProofs (disch := first | omega | (simp only [stT, u_3, ag_3, sz_3, by_3, ze_3, es_3, u_4, ag_4, sz_4, by_4, ze_4, bo_4, es_4, u_9, ag_9, sz_9, by_9, ze_9, es_9, u_22, ag_22, sz_22, by_22, ze_22, es_22, u_36, f_36_0, f_36_1, f_36_2, f_36_3, f_36_4, ag_36, sz_36, by_36, ze_36, pl_36, es_36, u_47, ag_47, sz_47, by_47, ze_47, es_47]; done) | (simp only [List.append_assoc, List.cons_append, List.nil_append, pre_n, pre_c, pre_a, pre_g, pre_r]; done) | (simp only [List.length_set]; done) | (simp only [List.length_set]; omega) | assumption | decide +kernel | fail) only [↓RP, RQ, isConstA, Nat.reduceEqDiff, Nat.reduceLT, Nat.reduceAdd, Int.reduceNeg, Int.reduceLT, Int.reduceLE, Int.reduceToNat, Int.reduceEq, ↓reduceIte, ite_true, ite_false, Option.toList, Nat.reduceMul, Nat.reduceSub, Nat.reduceLeDiff, ne_eq, eq_self, u_3, ag_3, sz_3, by_3, ze_3, es_3, u_4, ag_4, sz_4, by_4, ze_4, bo_4, es_4, u_9, ag_9, sz_9, by_9, ze_9, es_9, u_22, ag_22, sz_22, by_22, ze_22, es_22, u_36, f_36_0, f_36_1, f_36_2, f_36_3, f_36_4, ag_36, sz_36, by_36, ze_36, pl_36, es_36, u_47, ag_47, sz_47, by_47, ze_47, es_47, ↓AW_loop, k1, k2, k3, k4, k5, k6]
    refine LW_unfold ?_
    simp -dsimp -implicitDefEqProofs (disch := first | omega | (simp only [stT, u_3, ag_3, sz_3, by_3, ze_3, es_3, u_4, ag_4, sz_4, by_4, ze_4, bo_4, es_4, u_9, ag_9, sz_9, by_9, ze_9, es_9, u_22, ag_22, sz_22, by_22, ze_22, es_22, u_36, f_36_0, f_36_1, f_36_2, f_36_3, f_36_4, ag_36, sz_36, by_36, ze_36, pl_36, es_36, u_47, ag_47, sz_47, by_47, ze_47, es_47]; done) | (simp only [List.append_assoc, List.cons_append, List.nil_append, pre_n, pre_c, pre_a, pre_g, pre_r]; done) | (simp only [List.length_set]; done) | (simp only [List.length_set]; omega) | assumption | decide +kernel | fail) only [↓RP, RQ, isConstA, Nat.reduceEqDiff, Nat.reduceLT, Nat.reduceAdd, Int.reduceNeg, Int.reduceLT, Int.reduceLE, Int.reduceToNat, Int.reduceEq, ↓reduceIte, ite_true, ite_false, Option.toList, Nat.reduceMul, Nat.reduceSub, Nat.reduceLeDiff, ne_eq, eq_self, u_3, ag_3, sz_3, by_3, ze_3, es_3, u_4, ag_4, sz_4, by_4, ze_4, bo_4, es_4, u_9, ag_9, sz_9, by_9, ze_9, es_9, u_22, ag_22, sz_22, by_22, ze_22, es_22, u_36, f_36_0, f_36_1, f_36_2, f_36_3, f_36_4, ag_36, sz_36, by_36, ze_36, pl_36, es_36, u_47, ag_47, sz_47, by_47, ze_47, es_47, ↓AW_loop, k1, k2, k3, k4, k5, k6, c1']
    have hq := insort_q [] L [] (z := z) (a := 0) (b := L.length) (h := h) (d := d) (by simpa using hd) rfl (by simp) hok (by simp; omega)
    simp only [List.nil_append, List.append_nil] at hq
    refine FW.mono hq (fun v h2 hv => ?_)
    obtain ⟨rfl, r2, u2⟩ := hv
    rw [List.append_nil] at r2
    have c2' : ¬ (20 : Int) < L.length := by omega
    simp -dsimp -implicitDefEqProofs (disch := first | omega | (simp only [stT, u_3, ag_3, sz_3, by_3, ze_3, es_3, u_4, ag_4, sz_4, by_4, ze_4, bo_4, es_4, u_9, ag_9, sz_9, by_9, ze_9, es_9, u_22, ag_22, sz_22, by_22, ze_22, es_22, u_36, f_36_0, f_36_1, f_36_2, f_36_3, f_36_4, ag_36, sz_36, by_36, ze_36, pl_36, es_36, u_47, ag_47, sz_47, by_47, ze_47, es_47]; done) | (simp only [List.append_assoc, List.cons_append, List.nil_append, pre_n, pre_c, pre_a, pre_g, pre_r]; done) | (simp only [List.length_set]; done) | (simp only [List.length_set]; omega) | assumption | decide +kernel | fail) only [↓RP, RQ, isConstA, Nat.reduceEqDiff, Nat.reduceLT, Nat.reduceAdd, Int.reduceNeg, Int.reduceLT, Int.reduceLE, Int.reduceToNat, Int.reduceEq, ↓reduceIte, ite_true, ite_false, Option.toList, Nat.reduceMul, Nat.reduceSub, Nat.reduceLeDiff, ne_eq, eq_self, u_3, ag_3, sz_3, by_3, ze_3, es_3, u_4, ag_4, sz_4, by_4, ze_4, bo_4, es_4, u_9, ag_9, sz_9, by_9, ze_9, es_9, u_22, ag_22, sz_22, by_22, ze_22, es_22, u_36, f_36_0, f_36_1, f_36_2, f_36_3, f_36_4, ag_36, sz_36, by_36, ze_36, pl_36, es_36, u_47, ag_47, sz_47, by_47, ze_47, es_47, ↓AW_loop, k1, k2, k3, k4, k5, k6]
    refine LW_unfold ?_
    simp -dsimp -implicitDefEqProofs (disch := first | omega | (simp only [stT, u_3, ag_3, sz_3, by_3, ze_3, es_3, u_4, ag_4, sz_4, by_4, ze_4, bo_4, es_4, u_9, ag_9, sz_9, by_9, ze_9, es_9, u_22, ag_22, sz_22, by_22, ze_22, es_22, u_36, f_36_0, f_36_1, f_36_2, f_36_3, f_36_4, ag_36, sz_36, by_36, ze_36, pl_36, es_36, u_47, ag_47, sz_47, by_47, ze_47, es_47]; done) | (simp only [List.append_assoc, List.cons_append, List.nil_append, pre_n, pre_c, pre_a, pre_g, pre_r]; done) | (simp only [List.length_set]; done) | (simp only [List.length_set]; omega) | assumption | decide +kernel | fail) only [↓RP, RQ, isConstA, Nat.reduceEqDiff, Nat.reduceLT, Nat.reduceAdd, Int.reduceNeg, Int.reduceLT, Int.reduceLE, Int.reduceToNat, Int.reduceEq, ↓reduceIte, ite_true, ite_false, Option.toList, Nat.reduceMul, Nat.reduceSub, Nat.reduceLeDiff, ne_eq, eq_self, u_3, ag_3, sz_3, by_3, ze_3, es_3, u_4, ag_4, sz_4, by_4, ze_4, bo_4, es_4, u_9, ag_9, sz_9, by_9, ze_9, es_9, u_22, ag_22, sz_22, by_22, ze_22, es_22, u_36, f_36_0, f_36_1, f_36_2, f_36_3, f_36_4, ag_36, sz_36, by_36, ze_36, pl_36, es_36, u_47, ag_47, sz_47, by_47, ze_47, es_47, ↓AW_loop, k1, k2, k3, k4, k5, k6, c2']
    exact ⟨r2, u2⟩
  · obtain ⟨L1, L2, rfl, hL1⟩ : ∃ L1 L2, L = L1 ++ L2 ∧ L1.length = 20 := ⟨L.take 20, L.drop 20, (List.take_append_drop _ _).symm, by rw [List.length_take]; omega⟩
    have hlen : (L1 ++ L2).length = 20 + L2.length := by rw [List.length_append, hL1]
    have ok1 : ∀ x, x ∈ L1 → okE x := fun x hx => hok x (by simp [hx])
    have ok2 : ∀ x, x ∈ L2 → okE x := fun x hx => hok x (by simp [hx])
    have e := isort_app keyE L1 L2
    have li1 := isort_length keyE L1
    have li2 := isort_length keyE L2
    obtain ⟨N, hN⟩ : ∃ N, (L1 ++ L2).length = N := ⟨_, rfl⟩
    rw [hN] at hl hlen ⊢
    have c1' : (20 : Int) ≤ N := by omega
    simp -dsimp -implicitDefEqProofs (disch := first | omega | (simp only [stT, u_3, ag_3, sz_3, by_3, ze_3, es_3, u_4, ag_4, sz_4, by_4, ze_4, bo_4, es_4, u_9, ag_9, sz_9, by_9, ze_9, es_9, u_22, ag_22, sz_22, by_22, ze_22, es_22, u_36, f_36_0, f_36_1, f_36_2, f_36_3, f_36_4, ag_36, sz_36, by_36, ze_36, pl_36, es_36, u_47, ag_47, sz_47, by_47, ze_47, es_47]; done) | (simp only [List.append_assoc, List.cons_append, List.nil_append, pre_n, pre_c, pre_a, pre_g, pre_r]; done) | (simp only [List.length_set]; done) | (simp only [List.length_set]; omega) | assumption | decide +kernel | fail) only [↓RP, RQ, isConstA, Nat.reduceEqDiff, Nat.reduceLT, Nat.reduceAdd, Int.reduceNeg, Int.reduceLT, Int.reduceLE, Int.reduceToNat, Int.reduceEq, ↓reduceIte, ite_true, ite_false, Option.toList, Nat.reduceMul, Nat.reduceSub, Nat.reduceLeDiff, ne_eq, eq_self, u_3, ag_3, sz_3, by_3, ze_3, es_3, u_4, ag_4, sz_4, by_4, ze_4, bo_4, es_4, u_9, ag_9, sz_9, by_9, ze_9, es_9, u_22, ag_22, sz_22, by_22, ze_22, es_22, u_36, f_36_0, f_36_1, f_36_2, f_36_3, f_36_4, ag_36, sz_36, by_36, ze_36, pl_36, es_36, u_47, ag_47, sz_47, by_47, ze_47, es_47, ↓AW_loop, k1, k2, k3, k4, k5, k6]
    refine LW_unfold ?_
    simp -dsimp -implicitDefEqProofs (disch := first | omega | (simp only [stT, u_3, ag_3, sz_3, by_3, ze_3, es_3, u_4, ag_4, sz_4, by_4, ze_4, bo_4, es_4, u_9, ag_9, sz_9, by_9, ze_9, es_9, u_22, ag_22, sz_22, by_22, ze_22, es_22, u_36, f_36_0, f_36_1, f_36_2, f_36_3, f_36_4, ag_36, sz_36, by_36, ze_36, pl_36, es_36, u_47, ag_47, sz_47, by_47, ze_47, es_47]; done) | (simp only [List.append_assoc, List.cons_append, List.nil_append, pre_n, pre_c, pre_a, pre_g, pre_r]; done) | (simp only [List.length_set]; done) | (simp only [List.length_set]; omega) | assumption | decide +kernel | fail) only [↓RP, RQ, isConstA, Nat.reduceEqDiff, Nat.reduceLT, Nat.reduceAdd, Int.reduceNeg, Int.reduceLT, Int.reduceLE, Int.reduceToNat, Int.reduceEq, ↓reduceIte, ite_true, ite_false, Option.toList, Nat.reduceMul, Nat.reduceSub, Nat.reduceLeDiff, ne_eq, eq_self, u_3, ag_3, sz_3, by_3, ze_3, es_3, u_4, ag_4, sz_4, by_4, ze_4, bo_4, es_4, u_9, ag_9, sz_9, by_9, ze_9, es_9, u_22, ag_22, sz_22, by_22, ze_22, es_22, u_36, f_36_0, f_36_1, f_36_2, f_36_3, f_36_4, ag_36, sz_36, by_36, ze_36, pl_36, es_36, u_47, ag_47, sz_47, by_47, ze_47, es_47, ↓AW_loop, k1, k2, k3, k4, k5, k6, c1']
    have hq := insort_q [] L1 L2 (z := z) (a := 0) (b := 20) (h := h) (d := d) (by simpa using hd) rfl (by omega) ok1 (by simp only [List.nil_append]; omega)
    rw [List.nil_append, hN] at hq
    refine FW.mono hq (fun v h2 hv => ?_)
    obtain ⟨rfl, r2, u2⟩ := hv
    rw [List.nil_append] at r2
    have r2' : RowAt h2 d (isort keyE L1 ++ (L2 ++ [])) := by rw [List.append_nil]; exact r2
    have hlm : (isort keyE L1 ++ (L2 ++ [])).length = N := by simp only [List.append_nil, List.length_append]; omega
    have hq2 := insort_q (isort keyE L1) L2 [] (z := z) (a := 20) (b := N) r2' (by omega) (by omega) ok2 (by rw [hlm]; omega)
    rw [hlm] at hq2
    have smg : ∀ h3, RowAt h3 d (isort keyE L1 ++ (isort keyE L2 ++ [])) → 0 < L2.length → FW cx 26 [.slice (some ⟨d, 0, none⟩) N z, .int .i64 0, .int .i64 20, .int .i64 N, cmpV] h3 fun v h' => v = .tuple #[] ∧ RowAt h' d (mrg keyE (isort keyE L1) (isort keyE L2)) ∧ Upd h3 h' [d] [d] := by
      intro h3 r3 h0
      have hq := sym_ok (N + 1) [] (isort keyE L1) (isort keyE L2) [] (z := z) (a := 0) (m := 20) (b := N) (h := h3) (d := d) (by omega) (by omega) (by omega) (by simpa using r3) rfl (by omega) (by omega) (isort_sorted keyE L1) (isort_sorted keyE L2)
        (fun x hx => ok1 x ((isort_perm keyE L1).mem_iff.1 hx)) (fun x hx => ok2 x ((isort_perm keyE L2).mem_iff.1 hx)) (by simp only [List.nil_append, List.append_nil, List.length_append]; omega)
      have e3 : ([] ++ (isort keyE L1 ++ (isort keyE L2 ++ []))).length = N := by simp only [List.nil_append, List.append_nil, List.length_append]; omega
      rw [e3] at hq
      refine FW.mono hq (fun v h2 hv => ?_)
      obtain ⟨rfl, r2, u2⟩ := hv
      rw [List.append_nil] at r2
      exact ⟨rfl, r2, u2⟩
    by_cases c2 : N < 40
    · have c2' : ¬ (40 : Int) ≤ N := by omega
      simp -dsimp -implicitDefEqProofs (disch := first | omega | (simp only [stT, u_3, ag_3, sz_3, by_3, ze_3, es_3, u_4, ag_4, sz_4, by_4, ze_4, bo_4, es_4, u_9, ag_9, sz_9, by_9, ze_9, es_9, u_22, ag_22, sz_22, by_22, ze_22, es_22, u_36, f_36_0, f_36_1, f_36_2, f_36_3, f_36_4, ag_36, sz_36, by_36, ze_36, pl_36, es_36, u_47, ag_47, sz_47, by_47, ze_47, es_47]; done) | (simp only [List.append_assoc, List.cons_append, List.nil_append, pre_n, pre_c, pre_a, pre_g, pre_r]; done) | (simp only [List.length_set]; done) | (simp only [List.length_set]; omega) | assumption | decide +kernel | fail) only [↓RP, RQ, isConstA, Nat.reduceEqDiff, Nat.reduceLT, Nat.reduceAdd, Int.reduceNeg, Int.reduceLT, Int.reduceLE, Int.reduceToNat, Int.reduceEq, ↓reduceIte, ite_true, ite_false, Option.toList, Nat.reduceMul, Nat.reduceSub, Nat.reduceLeDiff, ne_eq, eq_self, u_3, ag_3, sz_3, by_3, ze_3, es_3, u_4, ag_4, sz_4, by_4, ze_4, bo_4, es_4, u_9, ag_9, sz_9, by_9, ze_9, es_9, u_22, ag_22, sz_22, by_22, ze_22, es_22, u_36, f_36_0, f_36_1, f_36_2, f_36_3, f_36_4, ag_36, sz_36, by_36, ze_36, pl_36, es_36, u_47, ag_47, sz_47, by_47, ze_47, es_47, ↓AW_loop, k1, k2, k3, k4, k5, k6]
      refine LW_unfold ?_
      simp -dsimp -implicitDefEqProofs (disch := first | omega | (simp only [stT, u_3, ag_3, sz_3, by_3, ze_3, es_3, u_4, ag_4, sz_4, by_4, ze_4, bo_4, es_4, u_9, ag_9, sz_9, by_9, ze_9, es_9, u_22, ag_22, sz_22, by_22, ze_22, es_22, u_36, f_36_0, f_36_1, f_36_2, f_36_3, f_36_4, ag_36, sz_36, by_36, ze_36, pl_36, es_36, u_47, ag_47, sz_47, by_47, ze_47, es_47]; done) | (simp only [List.append_assoc, List.cons_append, List.nil_append, pre_n, pre_c, pre_a, pre_g, pre_r]; done) | (simp only [List.length_set]; done) | (simp only [List.length_set]; omega) | assumption | decide +kernel | fail) only [↓RP, RQ, isConstA, Nat.reduceEqDiff, Nat.reduceLT, Nat.reduceAdd, Int.reduceNeg, Int.reduceLT, Int.reduceLE, Int.reduceToNat, Int.reduceEq, ↓reduceIte, ite_true, ite_false, Option.toList, Nat.reduceMul, Nat.reduceSub, Nat.reduceLeDiff, ne_eq, eq_self, u_3, ag_3, sz_3, by_3, ze_3, es_3, u_4, ag_4, sz_4, by_4, ze_4, bo_4, es_4, u_9, ag_9, sz_9, by_9, ze_9, es_9, u_22, ag_22, sz_22, by_22, ze_22, es_22, u_36, f_36_0, f_36_1, f_36_2, f_36_3, f_36_4, ag_36, sz_36, by_36, ze_36, pl_36, es_36, u_47, ag_47, sz_47, by_47, ze_47, es_47, ↓AW_loop, k1, k2, k3, k4, k5, k6, c2']
      refine FW.mono hq2 (fun v h3 hv => ?_)
      obtain ⟨rfl, r3, u3⟩ := hv
      by_cases c3 : N = 20
      · have c3' : ¬ (20 : Int) < N := by omega
        simp -dsimp -implicitDefEqProofs (disch := first | omega | (simp only [stT, u_3, ag_3, sz_3, by_3, ze_3, es_3, u_4, ag_4, sz_4, by_4, ze_4, bo_4, es_4, u_9, ag_9, sz_9, by_9, ze_9, es_9, u_22, ag_22, sz_22, by_22, ze_22, es_22, u_36, f_36_0, f_36_1, f_36_2, f_36_3, f_36_4, ag_36, sz_36, by_36, ze_36, pl_36, es_36, u_47, ag_47, sz_47, by_47, ze_47, es_47]; done) | (simp only [List.append_assoc, List.cons_append, List.nil_append, pre_n, pre_c, pre_a, pre_g, pre_r]; done) | (simp only [List.length_set]; done) | (simp only [List.length_set]; omega) | assumption | decide +kernel | fail) only [↓RP, RQ, isConstA, Nat.reduceEqDiff, Nat.reduceLT, Nat.reduceAdd, Int.reduceNeg, Int.reduceLT, Int.reduceLE, Int.reduceToNat, Int.reduceEq, ↓reduceIte, ite_true, ite_false, Option.toList, Nat.reduceMul, Nat.reduceSub, Nat.reduceLeDiff, ne_eq, eq_self, u_3, ag_3, sz_3, by_3, ze_3, es_3, u_4, ag_4, sz_4, by_4, ze_4, bo_4, es_4, u_9, ag_9, sz_9, by_9, ze_9, es_9, u_22, ag_22, sz_22, by_22, ze_22, es_22, u_36, f_36_0, f_36_1, f_36_2, f_36_3, f_36_4, ag_36, sz_36, by_36, ze_36, pl_36, es_36, u_47, ag_47, sz_47, by_47, ze_47, es_47, ↓AW_loop, k1, k2, k3, k4, k5, k6]
        refine LW_unfold ?_
        simp -dsimp -implicitDefEqProofs (disch := first | omega | (simp only [stT, u_3, ag_3, sz_3, by_3, ze_3, es_3, u_4, ag_4, sz_4, by_4, ze_4, bo_4, es_4, u_9, ag_9, sz_9, by_9, ze_9, es_9, u_22, ag_22, sz_22, by_22, ze_22, es_22, u_36, f_36_0, f_36_1, f_36_2, f_36_3, f_36_4, ag_36, sz_36, by_36, ze_36, pl_36, es_36, u_47, ag_47, sz_47, by_47, ze_47, es_47]; done) | (simp only [List.append_assoc, List.cons_append, List.nil_append, pre_n, pre_c, pre_a, pre_g, pre_r]; done) | (simp only [List.length_set]; done) | (simp only [List.length_set]; omega) | assumption | decide +kernel | fail) only [↓RP, RQ, isConstA, Nat.reduceEqDiff, Nat.reduceLT, Nat.reduceAdd, Int.reduceNeg, Int.reduceLT, Int.reduceLE, Int.reduceToNat, Int.reduceEq, ↓reduceIte, ite_true, ite_false, Option.toList, Nat.reduceMul, Nat.reduceSub, Nat.reduceLeDiff, ne_eq, eq_self, u_3, ag_3, sz_3, by_3, ze_3, es_3, u_4, ag_4, sz_4, by_4, ze_4, bo_4, es_4, u_9, ag_9, sz_9, by_9, ze_9, es_9, u_22, ag_22, sz_22, by_22, ze_22, es_22, u_36, f_36_0, f_36_1, f_36_2, f_36_3, f_36_4, ag_36, sz_36, by_36, ze_36, pl_36, es_36, u_47, ag_47, sz_47, by_47, ze_47, es_47, ↓AW_loop, k1, k2, k3, k4, k5, k6, c3']
        have h0 : L2 = [] := List.length_eq_zero_iff.1 (by omega)
        subst h0
        rw [List.append_nil]
        exact ⟨by simpa [isort] using r3, u2.trans u3⟩
      · have c3' : (20 : Int) < N := by omega
        simp -dsimp -implicitDefEqProofs (disch := first | omega | (simp only [stT, u_3, ag_3, sz_3, by_3, ze_3, es_3, u_4, ag_4, sz_4, by_4, ze_4, bo_4, es_4, u_9, ag_9, sz_9, by_9, ze_9, es_9, u_22, ag_22, sz_22, by_22, ze_22, es_22, u_36, f_36_0, f_36_1, f_36_2, f_36_3, f_36_4, ag_36, sz_36, by_36, ze_36, pl_36, es_36, u_47, ag_47, sz_47, by_47, ze_47, es_47]; done) | (simp only [List.append_assoc, List.cons_append, List.nil_append, pre_n, pre_c, pre_a, pre_g, pre_r]; done) | (simp only [List.length_set]; done) | (simp only [List.length_set]; omega) | assumption | decide +kernel | fail) only [↓RP, RQ, isConstA, Nat.reduceEqDiff, Nat.reduceLT, Nat.reduceAdd, Int.reduceNeg, Int.reduceLT, Int.reduceLE, Int.reduceToNat, Int.reduceEq, ↓reduceIte, ite_true, ite_false, Option.toList, Nat.reduceMul, Nat.reduceSub, Nat.reduceLeDiff, ne_eq, eq_self, u_3, ag_3, sz_3, by_3, ze_3, es_3, u_4, ag_4, sz_4, by_4, ze_4, bo_4, es_4, u_9, ag_9, sz_9, by_9, ze_9, es_9, u_22, ag_22, sz_22, by_22, ze_22, es_22, u_36, f_36_0, f_36_1, f_36_2, f_36_3, f_36_4, ag_36, sz_36, by_36, ze_36, pl_36, es_36, u_47, ag_47, sz_47, by_47, ze_47, es_47, ↓AW_loop, k1, k2, k3, k4, k5, k6]
        refine LW_unfold ?_
        simp -dsimp -implicitDefEqProofs (disch := first | omega | (simp only [stT, u_3, ag_3, sz_3, by_3, ze_3, es_3, u_4, ag_4, sz_4, by_4, ze_4, bo_4, es_4, u_9, ag_9, sz_9, by_9, ze_9, es_9, u_22, ag_22, sz_22, by_22, ze_22, es_22, u_36, f_36_0, f_36_1, f_36_2, f_36_3, f_36_4, ag_36, sz_36, by_36, ze_36, pl_36, es_36, u_47, ag_47, sz_47, by_47, ze_47, es_47]; done) | (simp only [List.append_assoc, List.cons_append, List.nil_append, pre_n, pre_c, pre_a, pre_g, pre_r]; done) | (simp only [List.length_set]; done) | (simp only [List.length_set]; omega) | assumption | decide +kernel | fail) only [↓RP, RQ, isConstA, Nat.reduceEqDiff, Nat.reduceLT, Nat.reduceAdd, Int.reduceNeg, Int.reduceLT, Int.reduceLE, Int.reduceToNat, Int.reduceEq, ↓reduceIte, ite_true, ite_false, Option.toList, Nat.reduceMul, Nat.reduceSub, Nat.reduceLeDiff, ne_eq, eq_self, u_3, ag_3, sz_3, by_3, ze_3, es_3, u_4, ag_4, sz_4, by_4, ze_4, bo_4, es_4, u_9, ag_9, sz_9, by_9, ze_9, es_9, u_22, ag_22, sz_22, by_22, ze_22, es_22, u_36, f_36_0, f_36_1, f_36_2, f_36_3, f_36_4, ag_36, sz_36, by_36, ze_36, pl_36, es_36, u_47, ag_47, sz_47, by_47, ze_47, es_47, ↓AW_loop, k1, k2, k3, k4, k5, k6, c3']
        refine LW_unfold ?_
        simp -dsimp -implicitDefEqProofs (disch := first | omega | (simp only [stT, u_3, ag_3, sz_3, by_3, ze_3, es_3, u_4, ag_4, sz_4, by_4, ze_4, bo_4, es_4, u_9, ag_9, sz_9, by_9, ze_9, es_9, u_22, ag_22, sz_22, by_22, ze_22, es_22, u_36, f_36_0, f_36_1, f_36_2, f_36_3, f_36_4, ag_36, sz_36, by_36, ze_36, pl_36, es_36, u_47, ag_47, sz_47, by_47, ze_47, es_47]; done) | (simp only [List.append_assoc, List.cons_append, List.nil_append, pre_n, pre_c, pre_a, pre_g, pre_r]; done) | (simp only [List.length_set]; done) | (simp only [List.length_set]; omega) | assumption | decide +kernel | fail) only [↓RP, RQ, isConstA, Nat.reduceEqDiff, Nat.reduceLT, Nat.reduceAdd, Int.reduceNeg, Int.reduceLT, Int.reduceLE, Int.reduceToNat, Int.reduceEq, ↓reduceIte, ite_true, ite_false, Option.toList, Nat.reduceMul, Nat.reduceSub, Nat.reduceLeDiff, ne_eq, eq_self, u_3, ag_3, sz_3, by_3, ze_3, es_3, u_4, ag_4, sz_4, by_4, ze_4, bo_4, es_4, u_9, ag_9, sz_9, by_9, ze_9, es_9, u_22, ag_22, sz_22, by_22, ze_22, es_22, u_36, f_36_0, f_36_1, f_36_2, f_36_3, f_36_4, ag_36, sz_36, by_36, ze_36, pl_36, es_36, u_47, ag_47, sz_47, by_47, ze_47, es_47, ↓AW_loop, k1, k2, k3, k4, k5, k6, c2', c3']
        refine FW.mono (smg h3 r3 (by omega)) (fun v h4 hv => ?_)
        obtain ⟨rfl, r4, u4⟩ := hv
        have c4' : ¬ (40 : Int) < N := by omega
        simp -dsimp -implicitDefEqProofs (disch := first | omega | (simp only [stT, u_3, ag_3, sz_3, by_3, ze_3, es_3, u_4, ag_4, sz_4, by_4, ze_4, bo_4, es_4, u_9, ag_9, sz_9, by_9, ze_9, es_9, u_22, ag_22, sz_22, by_22, ze_22, es_22, u_36, f_36_0, f_36_1, f_36_2, f_36_3, f_36_4, ag_36, sz_36, by_36, ze_36, pl_36, es_36, u_47, ag_47, sz_47, by_47, ze_47, es_47]; done) | (simp only [List.append_assoc, List.cons_append, List.nil_append, pre_n, pre_c, pre_a, pre_g, pre_r]; done) | (simp only [List.length_set]; done) | (simp only [List.length_set]; omega) | assumption | decide +kernel | fail) only [↓RP, RQ, isConstA, Nat.reduceEqDiff, Nat.reduceLT, Nat.reduceAdd, Int.reduceNeg, Int.reduceLT, Int.reduceLE, Int.reduceToNat, Int.reduceEq, ↓reduceIte, ite_true, ite_false, Option.toList, Nat.reduceMul, Nat.reduceSub, Nat.reduceLeDiff, ne_eq, eq_self, u_3, ag_3, sz_3, by_3, ze_3, es_3, u_4, ag_4, sz_4, by_4, ze_4, bo_4, es_4, u_9, ag_9, sz_9, by_9, ze_9, es_9, u_22, ag_22, sz_22, by_22, ze_22, es_22, u_36, f_36_0, f_36_1, f_36_2, f_36_3, f_36_4, ag_36, sz_36, by_36, ze_36, pl_36, es_36, u_47, ag_47, sz_47, by_47, ze_47, es_47, ↓AW_loop, k1, k2, k3, k4, k5, k6]
        refine LW_unfold ?_
        simp -dsimp -implicitDefEqProofs (disch := first | omega | (simp only [stT, u_3, ag_3, sz_3, by_3, ze_3, es_3, u_4, ag_4, sz_4, by_4, ze_4, bo_4, es_4, u_9, ag_9, sz_9, by_9, ze_9, es_9, u_22, ag_22, sz_22, by_22, ze_22, es_22, u_36, f_36_0, f_36_1, f_36_2, f_36_3, f_36_4, ag_36, sz_36, by_36, ze_36, pl_36, es_36, u_47, ag_47, sz_47, by_47, ze_47, es_47]; done) | (simp only [List.append_assoc, List.cons_append, List.nil_append, pre_n, pre_c, pre_a, pre_g, pre_r]; done) | (simp only [List.length_set]; done) | (simp only [List.length_set]; omega) | assumption | decide +kernel | fail) only [↓RP, RQ, isConstA, Nat.reduceEqDiff, Nat.reduceLT, Nat.reduceAdd, Int.reduceNeg, Int.reduceLT, Int.reduceLE, Int.reduceToNat, Int.reduceEq, ↓reduceIte, ite_true, ite_false, Option.toList, Nat.reduceMul, Nat.reduceSub, Nat.reduceLeDiff, ne_eq, eq_self, u_3, ag_3, sz_3, by_3, ze_3, es_3, u_4, ag_4, sz_4, by_4, ze_4, bo_4, es_4, u_9, ag_9, sz_9, by_9, ze_9, es_9, u_22, ag_22, sz_22, by_22, ze_22, es_22, u_36, f_36_0, f_36_1, f_36_2, f_36_3, f_36_4, ag_36, sz_36, by_36, ze_36, pl_36, es_36, u_47, ag_47, sz_47, by_47, ze_47, es_47, ↓AW_loop, k1, k2, k3, k4, k5, k6, c4']
        rw [e]
        exact ⟨r4, (u2.trans u3).trans u4⟩
    · obtain rfl : N = 40 := by omega
      simp -dsimp -implicitDefEqProofs (disch := first | omega | (simp only [stT, u_3, ag_3, sz_3, by_3, ze_3, es_3, u_4, ag_4, sz_4, by_4, ze_4, bo_4, es_4, u_9, ag_9, sz_9, by_9, ze_9, es_9, u_22, ag_22, sz_22, by_22, ze_22, es_22, u_36, f_36_0, f_36_1, f_36_2, f_36_3, f_36_4, ag_36, sz_36, by_36, ze_36, pl_36, es_36, u_47, ag_47, sz_47, by_47, ze_47, es_47]; done) | (simp only [List.append_assoc, List.cons_append, List.nil_append, pre_n, pre_c, pre_a, pre_g, pre_r]; done) | (simp only [List.length_set]; done) | (simp only [List.length_set]; omega) | assumption | decide +kernel | fail) only [↓RP, RQ, isConstA, Nat.reduceEqDiff, Nat.reduceLT, Nat.reduceAdd, Int.reduceNeg, Int.reduceLT, Int.reduceLE, Int.reduceToNat, Int.reduceEq, ↓reduceIte, ite_true, ite_false, Option.toList, Nat.reduceMul, Nat.reduceSub, Nat.reduceLeDiff, ne_eq, eq_self, u_3, ag_3, sz_3, by_3, ze_3, es_3, u_4, ag_4, sz_4, by_4, ze_4, bo_4, es_4, u_9, ag_9, sz_9, by_9, ze_9, es_9, u_22, ag_22, sz_22, by_22, ze_22, es_22, u_36, f_36_0, f_36_1, f_36_2, f_36_3, f_36_4, ag_36, sz_36, by_36, ze_36, pl_36, es_36, u_47, ag_47, sz_47, by_47, ze_47, es_47, ↓AW_loop, k1, k2, k3, k4, k5, k6]
      refine LW_unfold ?_
      simp -dsimp -implicitDefEqProofs (disch := first | omega | (simp only [stT, u_3, ag_3, sz_3, by_3, ze_3, es_3, u_4, ag_4, sz_4, by_4, ze_4, bo_4, es_4, u_9, ag_9, sz_9, by_9, ze_9, es_9, u_22, ag_22, sz_22, by_22, ze_22, es_22, u_36, f_36_0, f_36_1, f_36_2, f_36_3, f_36_4, ag_36, sz_36, by_36, ze_36, pl_36, es_36, u_47, ag_47, sz_47, by_47, ze_47, es_47]; done) | (simp only [List.append_assoc, List.cons_append, List.nil_append, pre_n, pre_c, pre_a, pre_g, pre_r]; done) | (simp only [List.length_set]; done) | (simp only [List.length_set]; omega) | assumption | decide +kernel | fail) only [↓RP, RQ, isConstA, Nat.reduceEqDiff, Nat.reduceLT, Nat.reduceAdd, Int.reduceNeg, Int.reduceLT, Int.reduceLE, Int.reduceToNat, Int.reduceEq, ↓reduceIte, ite_true, ite_false, Option.toList, Nat.reduceMul, Nat.reduceSub, Nat.reduceLeDiff, ne_eq, eq_self, u_3, ag_3, sz_3, by_3, ze_3, es_3, u_4, ag_4, sz_4, by_4, ze_4, bo_4, es_4, u_9, ag_9, sz_9, by_9, ze_9, es_9, u_22, ag_22, sz_22, by_22, ze_22, es_22, u_36, f_36_0, f_36_1, f_36_2, f_36_3, f_36_4, ag_36, sz_36, by_36, ze_36, pl_36, es_36, u_47, ag_47, sz_47, by_47, ze_47, es_47, ↓AW_loop, k1, k2, k3, k4, k5, k6]
      refine FW.mono hq2 (fun v h3 hv => ?_)
      obtain ⟨rfl, r3, u3⟩ := hv
      simp -dsimp -implicitDefEqProofs (disch := first | omega | (simp only [stT, u_3, ag_3, sz_3, by_3, ze_3, es_3, u_4, ag_4, sz_4, by_4, ze_4, bo_4, es_4, u_9, ag_9, sz_9, by_9, ze_9, es_9, u_22, ag_22, sz_22, by_22, ze_22, es_22, u_36, f_36_0, f_36_1, f_36_2, f_36_3, f_36_4, ag_36, sz_36, by_36, ze_36, pl_36, es_36, u_47, ag_47, sz_47, by_47, ze_47, es_47]; done) | (simp only [List.append_assoc, List.cons_append, List.nil_append, pre_n, pre_c, pre_a, pre_g, pre_r]; done) | (simp only [List.length_set]; done) | (simp only [List.length_set]; omega) | assumption | decide +kernel | fail) only [↓RP, RQ, isConstA, Nat.reduceEqDiff, Nat.reduceLT, Nat.reduceAdd, Int.reduceNeg, Int.reduceLT, Int.reduceLE, Int.reduceToNat, Int.reduceEq, ↓reduceIte, ite_true, ite_false, Option.toList, Nat.reduceMul, Nat.reduceSub, Nat.reduceLeDiff, ne_eq, eq_self, u_3, ag_3, sz_3, by_3, ze_3, es_3, u_4, ag_4, sz_4, by_4, ze_4, bo_4, es_4, u_9, ag_9, sz_9, by_9, ze_9, es_9, u_22, ag_22, sz_22, by_22, ze_22, es_22, u_36, f_36_0, f_36_1, f_36_2, f_36_3, f_36_4, ag_36, sz_36, by_36, ze_36, pl_36, es_36, u_47, ag_47, sz_47, by_47, ze_47, es_47, ↓AW_loop, k1, k2, k3, k4, k5, k6]
      refine LW_unfold ?_
      simp -dsimp -implicitDefEqProofs (disch := first | omega | (simp only [stT, u_3, ag_3, sz_3, by_3, ze_3, es_3, u_4, ag_4, sz_4, by_4, ze_4, bo_4, es_4, u_9, ag_9, sz_9, by_9, ze_9, es_9, u_22, ag_22, sz_22, by_22, ze_22, es_22, u_36, f_36_0, f_36_1, f_36_2, f_36_3, f_36_4, ag_36, sz_36, by_36, ze_36, pl_36, es_36, u_47, ag_47, sz_47, by_47, ze_47, es_47]; done) | (simp only [List.append_assoc, List.cons_append, List.nil_append, pre_n, pre_c, pre_a, pre_g, pre_r]; done) | (simp only [List.length_set]; done) | (simp only [List.length_set]; omega) | assumption | decide +kernel | fail) only [↓RP, RQ, isConstA, Nat.reduceEqDiff, Nat.reduceLT, Nat.reduceAdd, Int.reduceNeg, Int.reduceLT, Int.reduceLE, Int.reduceToNat, Int.reduceEq, ↓reduceIte, ite_true, ite_false, Option.toList, Nat.reduceMul, Nat.reduceSub, Nat.reduceLeDiff, ne_eq, eq_self, u_3, ag_3, sz_3, by_3, ze_3, es_3, u_4, ag_4, sz_4, by_4, ze_4, bo_4, es_4, u_9, ag_9, sz_9, by_9, ze_9, es_9, u_22, ag_22, sz_22, by_22, ze_22, es_22, u_36, f_36_0, f_36_1, f_36_2, f_36_3, f_36_4, ag_36, sz_36, by_36, ze_36, pl_36, es_36, u_47, ag_47, sz_47, by_47, ze_47, es_47, ↓AW_loop, k1, k2, k3, k4, k5, k6]
      refine FW.mono (ins_none 40 (b := 40) (by omega) (by omega)) (fun v h4 hv => ?_)
      obtain ⟨rfl, rfl⟩ := hv
      simp -dsimp -implicitDefEqProofs (disch := first | omega | (simp only [stT, u_3, ag_3, sz_3, by_3, ze_3, es_3, u_4, ag_4, sz_4, by_4, ze_4, bo_4, es_4, u_9, ag_9, sz_9, by_9, ze_9, es_9, u_22, ag_22, sz_22, by_22, ze_22, es_22, u_36, f_36_0, f_36_1, f_36_2, f_36_3, f_36_4, ag_36, sz_36, by_36, ze_36, pl_36, es_36, u_47, ag_47, sz_47, by_47, ze_47, es_47]; done) | (simp only [List.append_assoc, List.cons_append, List.nil_append, pre_n, pre_c, pre_a, pre_g, pre_r]; done) | (simp only [List.length_set]; done) | (simp only [List.length_set]; omega) | assumption | decide +kernel | fail) only [↓RP, RQ, isConstA, Nat.reduceEqDiff, Nat.reduceLT, Nat.reduceAdd, Int.reduceNeg, Int.reduceLT, Int.reduceLE, Int.reduceToNat, Int.reduceEq, ↓reduceIte, ite_true, ite_false, Option.toList, Nat.reduceMul, Nat.reduceSub, Nat.reduceLeDiff, ne_eq, eq_self, u_3, ag_3, sz_3, by_3, ze_3, es_3, u_4, ag_4, sz_4, by_4, ze_4, bo_4, es_4, u_9, ag_9, sz_9, by_9, ze_9, es_9, u_22, ag_22, sz_22, by_22, ze_22, es_22, u_36, f_36_0, f_36_1, f_36_2, f_36_3, f_36_4, ag_36, sz_36, by_36, ze_36, pl_36, es_36, u_47, ag_47, sz_47, by_47, ze_47, es_47, ↓AW_loop, k1, k2, k3, k4, k5, k6]
      refine LW_unfold ?_
      simp -dsimp -implicitDefEqProofs (disch := first | omega | (simp only [stT, u_3, ag_3, sz_3, by_3, ze_3, es_3, u_4, ag_4, sz_4, by_4, ze_4, bo_4, es_4, u_9, ag_9, sz_9, by_9, ze_9, es_9, u_22, ag_22, sz_22, by_22, ze_22, es_22, u_36, f_36_0, f_36_1, f_36_2, f_36_3, f_36_4, ag_36, sz_36, by_36, ze_36, pl_36, es_36, u_47, ag_47, sz_47, by_47, ze_47, es_47]; done) | (simp only [List.append_assoc, List.cons_append, List.nil_append, pre_n, pre_c, pre_a, pre_g, pre_r]; done) | (simp only [List.length_set]; done) | (simp only [List.length_set]; omega) | assumption | decide +kernel | fail) only [↓RP, RQ, isConstA, Nat.reduceEqDiff, Nat.reduceLT, Nat.reduceAdd, Int.reduceNeg, Int.reduceLT, Int.reduceLE, Int.reduceToNat, Int.reduceEq, ↓reduceIte, ite_true, ite_false, Option.toList, Nat.reduceMul, Nat.reduceSub, Nat.reduceLeDiff, ne_eq, eq_self, u_3, ag_3, sz_3, by_3, ze_3, es_3, u_4, ag_4, sz_4, by_4, ze_4, bo_4, es_4, u_9, ag_9, sz_9, by_9, ze_9, es_9, u_22, ag_22, sz_22, by_22, ze_22, es_22, u_36, f_36_0, f_36_1, f_36_2, f_36_3, f_36_4, ag_36, sz_36, by_36, ze_36, pl_36, es_36, u_47, ag_47, sz_47, by_47, ze_47, es_47, ↓AW_loop, k1, k2, k3, k4, k5, k6]
      refine LW_unfold ?_
      simp -dsimp -implicitDefEqProofs (disch := first | omega | (simp only [stT, u_3, ag_3, sz_3, by_3, ze_3, es_3, u_4, ag_4, sz_4, by_4, ze_4, bo_4, es_4, u_9, ag_9, sz_9, by_9, ze_9, es_9, u_22, ag_22, sz_22, by_22, ze_22, es_22, u_36, f_36_0, f_36_1, f_36_2, f_36_3, f_36_4, ag_36, sz_36, by_36, ze_36, pl_36, es_36, u_47, ag_47, sz_47, by_47, ze_47, es_47]; done) | (simp only [List.append_assoc, List.cons_append, List.nil_append, pre_n, pre_c, pre_a, pre_g, pre_r]; done) | (simp only [List.length_set]; done) | (simp only [List.length_set]; omega) | assumption | decide +kernel | fail) only [↓RP, RQ, isConstA, Nat.reduceEqDiff, Nat.reduceLT, Nat.reduceAdd, Int.reduceNeg, Int.reduceLT, Int.reduceLE, Int.reduceToNat, Int.reduceEq, ↓reduceIte, ite_true, ite_false, Option.toList, Nat.reduceMul, Nat.reduceSub, Nat.reduceLeDiff, ne_eq, eq_self, u_3, ag_3, sz_3, by_3, ze_3, es_3, u_4, ag_4, sz_4, by_4, ze_4, bo_4, es_4, u_9, ag_9, sz_9, by_9, ze_9, es_9, u_22, ag_22, sz_22, by_22, ze_22, es_22, u_36, f_36_0, f_36_1, f_36_2, f_36_3, f_36_4, ag_36, sz_36, by_36, ze_36, pl_36, es_36, u_47, ag_47, sz_47, by_47, ze_47, es_47, ↓AW_loop, k1, k2, k3, k4, k5, k6]
      refine FW.mono (smg h3 r3 (by omega)) (fun v h4 hv => ?_)
      obtain ⟨rfl, r4, u4⟩ := hv
      simp -dsimp -implicitDefEqProofs (disch := first | omega | (simp only [stT, u_3, ag_3, sz_3, by_3, ze_3, es_3, u_4, ag_4, sz_4, by_4, ze_4, bo_4, es_4, u_9, ag_9, sz_9, by_9, ze_9, es_9, u_22, ag_22, sz_22, by_22, ze_22, es_22, u_36, f_36_0, f_36_1, f_36_2, f_36_3, f_36_4, ag_36, sz_36, by_36, ze_36, pl_36, es_36, u_47, ag_47, sz_47, by_47, ze_47, es_47]; done) | (simp only [List.append_assoc, List.cons_append, List.nil_append, pre_n, pre_c, pre_a, pre_g, pre_r]; done) | (simp only [List.length_set]; done) | (simp only [List.length_set]; omega) | assumption | decide +kernel | fail) only [↓RP, RQ, isConstA, Nat.reduceEqDiff, Nat.reduceLT, Nat.reduceAdd, Int.reduceNeg, Int.reduceLT, Int.reduceLE, Int.reduceToNat, Int.reduceEq, ↓reduceIte, ite_true, ite_false, Option.toList, Nat.reduceMul, Nat.reduceSub, Nat.reduceLeDiff, ne_eq, eq_self, u_3, ag_3, sz_3, by_3, ze_3, es_3, u_4, ag_4, sz_4, by_4, ze_4, bo_4, es_4, u_9, ag_9, sz_9, by_9, ze_9, es_9, u_22, ag_22, sz_22, by_22, ze_22, es_22, u_36, f_36_0, f_36_1, f_36_2, f_36_3, f_36_4, ag_36, sz_36, by_36, ze_36, pl_36, es_36, u_47, ag_47, sz_47, by_47, ze_47, es_47, ↓AW_loop, k1, k2, k3, k4, k5, k6]
      refine LW_unfold ?_
      simp -dsimp -implicitDefEqProofs (disch := first | omega | (simp only [stT, u_3, ag_3, sz_3, by_3, ze_3, es_3, u_4, ag_4, sz_4, by_4, ze_4, bo_4, es_4, u_9, ag_9, sz_9, by_9, ze_9, es_9, u_22, ag_22, sz_22, by_22, ze_22, es_22, u_36, f_36_0, f_36_1, f_36_2, f_36_3, f_36_4, ag_36, sz_36, by_36, ze_36, pl_36, es_36, u_47, ag_47, sz_47, by_47, ze_47, es_47]; done) | (simp only [List.append_assoc, List.cons_append, List.nil_append, pre_n, pre_c, pre_a, pre_g, pre_r]; done) | (simp only [List.length_set]; done) | (simp only [List.length_set]; omega) | assumption | decide +kernel | fail) only [↓RP, RQ, isConstA, Nat.reduceEqDiff, Nat.reduceLT, Nat.reduceAdd, Int.reduceNeg, Int.reduceLT, Int.reduceLE, Int.reduceToNat, Int.reduceEq, ↓reduceIte, ite_true, ite_false, Option.toList, Nat.reduceMul, Nat.reduceSub, Nat.reduceLeDiff, ne_eq, eq_self, u_3, ag_3, sz_3, by_3, ze_3, es_3, u_4, ag_4, sz_4, by_4, ze_4, bo_4, es_4, u_9, ag_9, sz_9, by_9, ze_9, es_9, u_22, ag_22, sz_22, by_22, ze_22, es_22, u_36, f_36_0, f_36_1, f_36_2, f_36_3, f_36_4, ag_36, sz_36, by_36, ze_36, pl_36, es_36, u_47, ag_47, sz_47, by_47, ze_47, es_47, ↓AW_loop, k1, k2, k3, k4, k5, k6]
      refine LW_unfold ?_
      simp -dsimp -implicitDefEqProofs (disch := first | omega | (simp only [stT, u_3, ag_3, sz_3, by_3, ze_3, es_3, u_4, ag_4, sz_4, by_4, ze_4, bo_4, es_4, u_9, ag_9, sz_9, by_9, ze_9, es_9, u_22, ag_22, sz_22, by_22, ze_22, es_22, u_36, f_36_0, f_36_1, f_36_2, f_36_3, f_36_4, ag_36, sz_36, by_36, ze_36, pl_36, es_36, u_47, ag_47, sz_47, by_47, ze_47, es_47]; done) | (simp only [List.append_assoc, List.cons_append, List.nil_append, pre_n, pre_c, pre_a, pre_g, pre_r]; done) | (simp only [List.length_set]; done) | (simp only [List.length_set]; omega) | assumption | decide +kernel | fail) only [↓RP, RQ, isConstA, Nat.reduceEqDiff, Nat.reduceLT, Nat.reduceAdd, Int.reduceNeg, Int.reduceLT, Int.reduceLE, Int.reduceToNat, Int.reduceEq, ↓reduceIte, ite_true, ite_false, Option.toList, Nat.reduceMul, Nat.reduceSub, Nat.reduceLeDiff, ne_eq, eq_self, u_3, ag_3, sz_3, by_3, ze_3, es_3, u_4, ag_4, sz_4, by_4, ze_4, bo_4, es_4, u_9, ag_9, sz_9, by_9, ze_9, es_9, u_22, ag_22, sz_22, by_22, ze_22, es_22, u_36, f_36_0, f_36_1, f_36_2, f_36_3, f_36_4, ag_36, sz_36, by_36, ze_36, pl_36, es_36, u_47, ag_47, sz_47, by_47, ze_47, es_47, ↓AW_loop, k1, k2, k3, k4, k5, k6]
      rw [e]
      exact ⟨r4, (u2.trans u3).trans u4⟩
theorem sort_q (L : List El) {h : AHeap} {d z : Nat} (hd : RowAt h d L) (hl : L.length ≤ 40) (hok : ∀ x, x ∈ L → okE x) : FW cx 18 [.slice (some ⟨d, 0, none⟩) L.length z, cmpV] h fun v h' => v = .tuple #[] ∧ RowAt h' d (isort keyE L) ∧ Upd h h' [d] [d] := by
  refine FW_f Try.func18 rfl (by decide +kernel) ?_
  simp -dsimp -implicitDefEqProofs (disch := first | omega | (simp only [stT, u_3, ag_3, sz_3, by_3, ze_3, es_3, u_4, ag_4, sz_4, by_4, ze_4, bo_4, es_4, u_9, ag_9, sz_9, by_9, ze_9, es_9, u_22, ag_22, sz_22, by_22, ze_22, es_22, u_36, f_36_0, f_36_1, f_36_2, f_36_3, f_36_4, ag_36, sz_36, by_36, ze_36, pl_36, es_36, u_47, ag_47, sz_47, by_47, ze_47, es_47]; done) | (simp only [List.append_assoc, List.cons_append, List.nil_append, pre_n, pre_c, pre_a, pre_g, pre_r]; done) | (simp only [List.length_set]; done) | (simp only [List.length_set]; omega) | assumption | decide +kernel | fail) only [↓RP, RQ, isConstA, Nat.reduceEqDiff, Nat.reduceLT, Nat.reduceAdd, Int.reduceNeg, Int.reduceLT, Int.reduceLE, Int.reduceToNat, Int.reduceEq, ↓reduceIte, ite_true, ite_false, Option.toList, Nat.reduceMul, Nat.reduceSub, Nat.reduceLeDiff, ne_eq, eq_self, u_3, ag_3, sz_3, by_3, ze_3, es_3, u_4, ag_4, sz_4, by_4, ze_4, bo_4, es_4, u_9, ag_9, sz_9, by_9, ze_9, es_9, u_22, ag_22, sz_22, by_22, ze_22, es_22, u_36, f_36_0, f_36_1, f_36_2, f_36_3, f_36_4, ag_36, sz_36, by_36, ze_36, pl_36, es_36, u_47, ag_47, sz_47, by_47, ze_47, es_47, ↓AW_loop]
  refine FW.mono (stable_q L hd hl hok) (fun v h2 hv => ?_)
  obtain ⟨rfl, r2, u2⟩ := hv
  simp -dsimp -implicitDefEqProofs (disch := first | omega | (simp only [stT, u_3, ag_3, sz_3, by_3, ze_3, es_3, u_4, ag_4, sz_4, by_4, ze_4, bo_4, es_4, u_9, ag_9, sz_9, by_9, ze_9, es_9, u_22, ag_22, sz_22, by_22, ze_22, es_22, u_36, f_36_0, f_36_1, f_36_2, f_36_3, f_36_4, ag_36, sz_36, by_36, ze_36, pl_36, es_36, u_47, ag_47, sz_47, by_47, ze_47, es_47]; done) | (simp only [List.append_assoc, List.cons_append, List.nil_append, pre_n, pre_c, pre_a, pre_g, pre_r]; done) | (simp only [List.length_set]; done) | (simp only [List.length_set]; omega) | assumption | decide +kernel | fail) only [↓RP, RQ, isConstA, Nat.reduceEqDiff, Nat.reduceLT, Nat.reduceAdd, Int.reduceNeg, Int.reduceLT, Int.reduceLE, Int.reduceToNat, Int.reduceEq, ↓reduceIte, ite_true, ite_false, Option.toList, Nat.reduceMul, Nat.reduceSub, Nat.reduceLeDiff, ne_eq, eq_self, u_3, ag_3, sz_3, by_3, ze_3, es_3, u_4, ag_4, sz_4, by_4, ze_4, bo_4, es_4, u_9, ag_9, sz_9, by_9, ze_9, es_9, u_22, ag_22, sz_22, by_22, ze_22, es_22, u_36, f_36_0, f_36_1, f_36_2, f_36_3, f_36_4, ag_36, sz_36, by_36, ze_36, pl_36, es_36, u_47, ag_47, sz_47, by_47, ze_47, es_47, ↓AW_loop]
  exact ⟨r2, u2⟩
end Go.Abs
/- Pm7: the walk of Concat, of captures. Conditions: none. -/
set_option maxRecDepth 100000
set_option linter.unusedSimpArgs false
set_option linter.unusedVariables false
namespace Go.Abs
open Go.Proofs Go.Abs.Srt
def slM (yb : Option Nat) : Option Addr := yb.map fun b => ⟨b, 0, none⟩
/-- A row that may be none. -/
def RowM (h : AHeap) (yb : Option Nat) (L : List Seen) : Prop := (yb = none ∧ L = []) ∨ ∃ b, yb = some b ∧ blkA h b = some ⟨L.flatMap seenC, 5, false⟩
/-- A capture as it lies: its place, its capacity, its frames. -/
structure Cap where
  a : Option Addr
  m : Nat
  l : List Seen
def capV (t : Cap) : Value := .slice t.a t.l.length t.m
def CapAt (ro : Bool) (h : AHeap) (t : Cap) : Prop := SlA seenC 5 ro h t.a t.l ∧ (t.a = none → t.m = 0)
def capL (Ls : List Cap) : List Seen := Ls.flatMap fun t => t.l
def capN : List Cap → Nat
  | [] => 0
  | t :: Ls => t.l.length + capN Ls
theorem capL_len : ∀ Ls : List Cap, (capL Ls).length = capN Ls
  | [] => rfl
  | t :: Ls => by
    have := capL_len Ls
    unfold capL at this ⊢
    rw [List.flatMap_cons, List.length_append, this, capN]
theorem capL_snoc {Ls : List Cap} {i : Nat} {t : Cap} (h : Ls[i]? = some t) : capL (Ls.take (i + 1)) = capL (Ls.take i) ++ t.l := by
  unfold capL
  rw [List.take_add_one, h, List.flatMap_append]; simp
theorem capL_le (Ls : List Cap) (i : Nat) : (capL (Ls.take i)).length ≤ (capL Ls).length := by
  unfold capL
  conv => rhs; rw [← List.take_append_drop i Ls]
  rw [List.flatMap_append, List.length_append]; omega
theorem grow_q (n : Nat) (hn : n ≤ 1000) (h : AHeap) : FW cx 22 [.slice none 0 0, .int .i64 n] h fun v h' => ∃ yb, v = .slice (slM yb) 0 0 ∧ RowM h' yb [] ∧ (∀ b, yb = some b → h.length ≤ b) ∧ Ext h h' := by
  by_cases h0 : n = 0
  · subst h0
    exact FW_prim (p := growP 5) rfl (v := .slice none 0 0) (h' := h) rfl ⟨none, rfl, .inl ⟨rfl, rfl⟩, by simp, Ext.refl _⟩
  · refine FW_prim (p := growP 5) rfl (v := .slice (some ⟨h.length, 0, none⟩) 0 0) (h' := h ++ [some (.cells ⟨[], 5, false⟩)]) ?_ ⟨some h.length, rfl, .inr ⟨_, rfl, blkA_new _ _⟩, fun b hb => by cases hb; exact Nat.le_refl _, .app _ _⟩
    show (if (n : Int) = 0 then _ else if 0 < (n : Int) ∧ (n : Int) ≤ 1000 then _ else _) = _
    rw [if_neg (by omega), if_pos (by omega)]
theorem concat_q (Ls : List Cap) {ro : Bool} {h : AHeap} {d z : Nat} (hd : blkA h d = some ⟨Ls.map capV, 1, false⟩) (hls : ∀ t, t ∈ Ls → CapAt ro h t) (hl : Ls.length ≤ 100) (hn : (capL Ls).length ≤ 1000) :
    FW cx 17 [.slice (some ⟨d, 0, none⟩) Ls.length z] h fun v h' => ∃ yb m, v = .slice (slM yb) (capL Ls).length m ∧ (yb = none → m = 0) ∧ RowM h' yb (capL Ls) ∧ (∀ b, yb = some b → h.length ≤ b) ∧ Ext h h' := by
  refine FW_f Try.func17 rfl (by decide +kernel) ?_
  refine AW_cut (fun fr h1 => fget fr 0 = .slice (some ⟨d, 0, none⟩) Ls.length z ∧ h = h1) ?_ ?_
  · simp -dsimp -implicitDefEqProofs (disch := first | omega | (simp only [stT, u_3, ag_3, sz_3, by_3, ze_3, es_3, u_4, ag_4, sz_4, by_4, ze_4, bo_4, es_4, u_9, ag_9, sz_9, by_9, ze_9, es_9, u_22, ag_22, sz_22, by_22, ze_22, es_22, u_36, f_36_0, f_36_1, f_36_2, f_36_3, f_36_4, ag_36, sz_36, by_36, ze_36, pl_36, es_36, u_44, ag_44, sz_44, by_44, ze_44, es_44]; done) | (simp only [List.append_assoc, List.cons_append, List.nil_append, pre_n, pre_c, pre_a, pre_g, pre_r]; done) | (simp only [List.length_set]; done) | (simp only [List.length_set]; omega) | assumption | decide +kernel | fail) only [↓RP, RQ, isConstA, Nat.reduceEqDiff, Nat.reduceLT, Nat.reduceAdd, Int.reduceNeg, Int.reduceLT, Int.reduceLE, Int.reduceToNat, Int.reduceEq, ↓reduceIte, ite_true, ite_false, Option.toList, Nat.reduceMul, Nat.reduceSub, Nat.reduceLeDiff, ne_eq, eq_self, u_3, ag_3, sz_3, by_3, ze_3, es_3, u_4, ag_4, sz_4, by_4, ze_4, bo_4, es_4, u_9, ag_9, sz_9, by_9, ze_9, es_9, u_22, ag_22, sz_22, by_22, ze_22, es_22, u_36, f_36_0, f_36_1, f_36_2, f_36_3, f_36_4, ag_36, sz_36, by_36, ze_36, pl_36, es_36, u_44, ag_44, sz_44, by_44, ze_44, es_44, ↓AW_loop]
  rintro fr _ ⟨f0, rfl⟩
  refine AW_cut (fun fr h1 => (fget fr 0 = .slice (some ⟨d, 0, none⟩) Ls.length z ∧ fget fr 3 = .int .i64 0) ∧ h = h1) ?_ ?_
  · simp -dsimp -implicitDefEqProofs (disch := first | omega | (simp only [stT, u_3, ag_3, sz_3, by_3, ze_3, es_3, u_4, ag_4, sz_4, by_4, ze_4, bo_4, es_4, u_9, ag_9, sz_9, by_9, ze_9, es_9, u_22, ag_22, sz_22, by_22, ze_22, es_22, u_36, f_36_0, f_36_1, f_36_2, f_36_3, f_36_4, ag_36, sz_36, by_36, ze_36, pl_36, es_36, u_44, ag_44, sz_44, by_44, ze_44, es_44]; done) | (simp only [List.append_assoc, List.cons_append, List.nil_append, pre_n, pre_c, pre_a, pre_g, pre_r]; done) | (simp only [List.length_set]; done) | (simp only [List.length_set]; omega) | assumption | decide +kernel | fail) only [↓RP, RQ, isConstA, Nat.reduceEqDiff, Nat.reduceLT, Nat.reduceAdd, Int.reduceNeg, Int.reduceLT, Int.reduceLE, Int.reduceToNat, Int.reduceEq, ↓reduceIte, ite_true, ite_false, Option.toList, Nat.reduceMul, Nat.reduceSub, Nat.reduceLeDiff, ne_eq, eq_self, u_3, ag_3, sz_3, by_3, ze_3, es_3, u_4, ag_4, sz_4, by_4, ze_4, bo_4, es_4, u_9, ag_9, sz_9, by_9, ze_9, es_9, u_22, ag_22, sz_22, by_22, ze_22, es_22, u_36, f_36_0, f_36_1, f_36_2, f_36_3, f_36_4, ag_36, sz_36, by_36, ze_36, pl_36, es_36, u_44, ag_44, sz_44, by_44, ze_44, es_44, ↓AW_loop, f0]
  rintro fr _ ⟨⟨f0, f3⟩, rfl⟩
  have hcell : ∀ {i : Nat} {t : Cap}, Ls[i]? = some t → (Ls.map capV)[i]? = some (.slice t.a t.l.length t.m) := fun {i t} ht => by rw [List.getElem?_map, ht]; rfl
  have hml : (Ls.map capV).length = Ls.length := List.length_map ..
  refine AW_cut (fun fr h1 => (fget fr 0 = .slice (some ⟨d, 0, none⟩) Ls.length z ∧ fget fr 3 = .int .i64 (capL Ls).length) ∧ h = h1) ?_ ?_
  · simp -dsimp -implicitDefEqProofs (disch := first | omega | (simp only [stT, u_3, ag_3, sz_3, by_3, ze_3, es_3, u_4, ag_4, sz_4, by_4, ze_4, bo_4, es_4, u_9, ag_9, sz_9, by_9, ze_9, es_9, u_22, ag_22, sz_22, by_22, ze_22, es_22, u_36, f_36_0, f_36_1, f_36_2, f_36_3, f_36_4, ag_36, sz_36, by_36, ze_36, pl_36, es_36, u_44, ag_44, sz_44, by_44, ze_44, es_44]; done) | (simp only [List.append_assoc, List.cons_append, List.nil_append, pre_n, pre_c, pre_a, pre_g, pre_r]; done) | (simp only [List.length_set]; done) | (simp only [List.length_set]; omega) | assumption | decide +kernel | fail) only [↓RP, RQ, isConstA, Nat.reduceEqDiff, Nat.reduceLT, Nat.reduceAdd, Int.reduceNeg, Int.reduceLT, Int.reduceLE, Int.reduceToNat, Int.reduceEq, ↓reduceIte, ite_true, ite_false, Option.toList, Nat.reduceMul, Nat.reduceSub, Nat.reduceLeDiff, ne_eq, eq_self, u_3, ag_3, sz_3, by_3, ze_3, es_3, u_4, ag_4, sz_4, by_4, ze_4, bo_4, es_4, u_9, ag_9, sz_9, by_9, ze_9, es_9, u_22, ag_22, sz_22, by_22, ze_22, es_22, u_36, f_36_0, f_36_1, f_36_2, f_36_3, f_36_4, ag_36, sz_36, by_36, ze_36, pl_36, es_36, u_44, ag_44, sz_44, by_44, ze_44, es_44, ↓AW_loop, f0, f3]
    refine LW_rule (fun q fr h1 => ∃ i, q = Ls.length - i ∧ i ≤ Ls.length ∧ (fget fr 0 = .slice (some ⟨d, 0, none⟩) Ls.length z ∧ fget fr 9 = .slice (some ⟨d, 0, none⟩) Ls.length z ∧ fget fr 10 = .int .i64 Ls.length ∧ fget fr 11 = .int .i64 i ∧ fget fr 3 = .int .i64 (capL (Ls.take i)).length) ∧ h = h1) ?_ Ls.length _ _ ⟨0, rfl, Nat.zero_le _, ?_⟩
    · rintro q fr _ ⟨i, rfl, hi, ⟨f0, f9, f10, f11, f3⟩, rfl⟩
      by_cases hil : i < Ls.length
      · obtain ⟨t, ht⟩ : ∃ t, Ls[i]? = some t := ⟨_, List.getElem?_eq_getElem hil⟩
        have hc := hcell ht
        have hs := capL_snoc ht
        have hle := capL_le Ls (i + 1)
        have hsl : ((capL (Ls.take i)).length : Int) + t.l.length = ((capL (Ls.take (i + 1))).length : Int) := by rw [hs, List.length_append]; omega
        have q1 : (i : Int) < Ls.length := by omega
        have q2 : ¬ ((capL (Ls.take (i + 1))).length : Int) < 0 := by omega
        have hadd : (i : Int) + 1 = ((i + 1 : Nat) : Int) := by omega
        obtain ⟨V, hV⟩ : ∃ V, Ls.map capV = V := ⟨_, rfl⟩
        rw [hV] at hd hc hml
        simp -dsimp -implicitDefEqProofs (disch := first | omega | (simp only [stT, u_3, ag_3, sz_3, by_3, ze_3, es_3, u_4, ag_4, sz_4, by_4, ze_4, bo_4, es_4, u_9, ag_9, sz_9, by_9, ze_9, es_9, u_22, ag_22, sz_22, by_22, ze_22, es_22, u_36, f_36_0, f_36_1, f_36_2, f_36_3, f_36_4, ag_36, sz_36, by_36, ze_36, pl_36, es_36, u_44, ag_44, sz_44, by_44, ze_44, es_44]; done) | (simp only [List.append_assoc, List.cons_append, List.nil_append, pre_n, pre_c, pre_a, pre_g, pre_r]; done) | (simp only [List.length_set]; done) | (simp only [List.length_set]; omega) | assumption | decide +kernel | fail) only [↓RP, RQ, isConstA, Nat.reduceEqDiff, Nat.reduceLT, Nat.reduceAdd, Int.reduceNeg, Int.reduceLT, Int.reduceLE, Int.reduceToNat, Int.reduceEq, ↓reduceIte, ite_true, ite_false, Option.toList, Nat.reduceMul, Nat.reduceSub, Nat.reduceLeDiff, ne_eq, eq_self, u_3, ag_3, sz_3, by_3, ze_3, es_3, u_4, ag_4, sz_4, by_4, ze_4, bo_4, es_4, u_9, ag_9, sz_9, by_9, ze_9, es_9, u_22, ag_22, sz_22, by_22, ze_22, es_22, u_36, f_36_0, f_36_1, f_36_2, f_36_3, f_36_4, ag_36, sz_36, by_36, ze_36, pl_36, es_36, u_44, ag_44, sz_44, by_44, ze_44, es_44, ↓AW_loop, f0, f9, f10, f11, f3, q1, hd, hc, hml, hsl, q2, hadd]
        exact ⟨Ls.length - (i + 1), by omega, i + 1, rfl, by omega, rfl, rfl⟩
      · have q1 : ¬ (i : Int) < Ls.length := by omega
        have hie : i = Ls.length := by omega
        subst hie
        rw [List.take_length] at f3
        simp -dsimp -implicitDefEqProofs (disch := first | omega | (simp only [stT, u_3, ag_3, sz_3, by_3, ze_3, es_3, u_4, ag_4, sz_4, by_4, ze_4, bo_4, es_4, u_9, ag_9, sz_9, by_9, ze_9, es_9, u_22, ag_22, sz_22, by_22, ze_22, es_22, u_36, f_36_0, f_36_1, f_36_2, f_36_3, f_36_4, ag_36, sz_36, by_36, ze_36, pl_36, es_36, u_44, ag_44, sz_44, by_44, ze_44, es_44]; done) | (simp only [List.append_assoc, List.cons_append, List.nil_append, pre_n, pre_c, pre_a, pre_g, pre_r]; done) | (simp only [List.length_set]; done) | (simp only [List.length_set]; omega) | assumption | decide +kernel | fail) only [↓RP, RQ, isConstA, Nat.reduceEqDiff, Nat.reduceLT, Nat.reduceAdd, Int.reduceNeg, Int.reduceLT, Int.reduceLE, Int.reduceToNat, Int.reduceEq, ↓reduceIte, ite_true, ite_false, Option.toList, Nat.reduceMul, Nat.reduceSub, Nat.reduceLeDiff, ne_eq, eq_self, u_3, ag_3, sz_3, by_3, ze_3, es_3, u_4, ag_4, sz_4, by_4, ze_4, bo_4, es_4, u_9, ag_9, sz_9, by_9, ze_9, es_9, u_22, ag_22, sz_22, by_22, ze_22, es_22, u_36, f_36_0, f_36_1, f_36_2, f_36_3, f_36_4, ag_36, sz_36, by_36, ze_36, pl_36, es_36, u_44, ag_44, sz_44, by_44, ze_44, es_44, ↓AW_loop, f0, f9, f10, f11, f3, q1]
    · simp -dsimp -implicitDefEqProofs (disch := first | omega | (simp only [stT, u_3, ag_3, sz_3, by_3, ze_3, es_3, u_4, ag_4, sz_4, by_4, ze_4, bo_4, es_4, u_9, ag_9, sz_9, by_9, ze_9, es_9, u_22, ag_22, sz_22, by_22, ze_22, es_22, u_36, f_36_0, f_36_1, f_36_2, f_36_3, f_36_4, ag_36, sz_36, by_36, ze_36, pl_36, es_36, u_44, ag_44, sz_44, by_44, ze_44, es_44]; done) | (simp only [List.append_assoc, List.cons_append, List.nil_append, pre_n, pre_c, pre_a, pre_g, pre_r]; done) | (simp only [List.length_set]; done) | (simp only [List.length_set]; omega) | assumption | decide +kernel | fail) only [↓RP, RQ, isConstA, Nat.reduceEqDiff, Nat.reduceLT, Nat.reduceAdd, Int.reduceNeg, Int.reduceLT, Int.reduceLE, Int.reduceToNat, Int.reduceEq, ↓reduceIte, ite_true, ite_false, Option.toList, Nat.reduceMul, Nat.reduceSub, Nat.reduceLeDiff, ne_eq, eq_self, u_3, ag_3, sz_3, by_3, ze_3, es_3, u_4, ag_4, sz_4, by_4, ze_4, bo_4, es_4, u_9, ag_9, sz_9, by_9, ze_9, es_9, u_22, ag_22, sz_22, by_22, ze_22, es_22, u_36, f_36_0, f_36_1, f_36_2, f_36_3, f_36_4, ag_36, sz_36, by_36, ze_36, pl_36, es_36, u_44, ag_44, sz_44, by_44, ze_44, es_44, ↓AW_loop, f0, f3]
      rfl
  clear f0 f3
  rintro fr _ ⟨⟨f0, f3⟩, rfl⟩
  refine AW_cut (fun fr h1 => ∃ yb, (fget fr 0 = .slice (some ⟨d, 0, none⟩) Ls.length z ∧ fget fr 6 = .slice (slM yb) 0 0) ∧ RowM h1 yb [] ∧ (∀ b, yb = some b → h.length ≤ b) ∧ Ext h h1) ?_ ?_
  · simp -dsimp -implicitDefEqProofs (disch := first | omega | (simp only [stT, u_3, ag_3, sz_3, by_3, ze_3, es_3, u_4, ag_4, sz_4, by_4, ze_4, bo_4, es_4, u_9, ag_9, sz_9, by_9, ze_9, es_9, u_22, ag_22, sz_22, by_22, ze_22, es_22, u_36, f_36_0, f_36_1, f_36_2, f_36_3, f_36_4, ag_36, sz_36, by_36, ze_36, pl_36, es_36, u_44, ag_44, sz_44, by_44, ze_44, es_44]; done) | (simp only [List.append_assoc, List.cons_append, List.nil_append, pre_n, pre_c, pre_a, pre_g, pre_r]; done) | (simp only [List.length_set]; done) | (simp only [List.length_set]; omega) | assumption | decide +kernel | fail) only [↓RP, RQ, isConstA, Nat.reduceEqDiff, Nat.reduceLT, Nat.reduceAdd, Int.reduceNeg, Int.reduceLT, Int.reduceLE, Int.reduceToNat, Int.reduceEq, ↓reduceIte, ite_true, ite_false, Option.toList, Nat.reduceMul, Nat.reduceSub, Nat.reduceLeDiff, ne_eq, eq_self, u_3, ag_3, sz_3, by_3, ze_3, es_3, u_4, ag_4, sz_4, by_4, ze_4, bo_4, es_4, u_9, ag_9, sz_9, by_9, ze_9, es_9, u_22, ag_22, sz_22, by_22, ze_22, es_22, u_36, f_36_0, f_36_1, f_36_2, f_36_3, f_36_4, ag_36, sz_36, by_36, ze_36, pl_36, es_36, u_44, ag_44, sz_44, by_44, ze_44, es_44, ↓AW_loop, f0, f3]
    refine FW.mono (grow_q _ hn h) (fun v h1 hv => ?_)
    obtain ⟨yb, rfl, hr, hb, hE⟩ := hv
    simp -dsimp -implicitDefEqProofs (disch := first | omega | (simp only [stT, u_3, ag_3, sz_3, by_3, ze_3, es_3, u_4, ag_4, sz_4, by_4, ze_4, bo_4, es_4, u_9, ag_9, sz_9, by_9, ze_9, es_9, u_22, ag_22, sz_22, by_22, ze_22, es_22, u_36, f_36_0, f_36_1, f_36_2, f_36_3, f_36_4, ag_36, sz_36, by_36, ze_36, pl_36, es_36, u_44, ag_44, sz_44, by_44, ze_44, es_44]; done) | (simp only [List.append_assoc, List.cons_append, List.nil_append, pre_n, pre_c, pre_a, pre_g, pre_r]; done) | (simp only [List.length_set]; done) | (simp only [List.length_set]; omega) | assumption | decide +kernel | fail) only [↓RP, RQ, isConstA, Nat.reduceEqDiff, Nat.reduceLT, Nat.reduceAdd, Int.reduceNeg, Int.reduceLT, Int.reduceLE, Int.reduceToNat, Int.reduceEq, ↓reduceIte, ite_true, ite_false, Option.toList, Nat.reduceMul, Nat.reduceSub, Nat.reduceLeDiff, ne_eq, eq_self, u_3, ag_3, sz_3, by_3, ze_3, es_3, u_4, ag_4, sz_4, by_4, ze_4, bo_4, es_4, u_9, ag_9, sz_9, by_9, ze_9, es_9, u_22, ag_22, sz_22, by_22, ze_22, es_22, u_36, f_36_0, f_36_1, f_36_2, f_36_3, f_36_4, ag_36, sz_36, by_36, ze_36, pl_36, es_36, u_44, ag_44, sz_44, by_44, ze_44, es_44, ↓AW_loop, f0]
    exact ⟨yb, rfl, hr, hb, hE⟩
  clear f0 f3
  rintro fr h1 ⟨yb, ⟨f0, f6⟩, hr, hb, hE⟩
  refine AW_cut (fun fr h2 => ∃ yb m, fget fr 6 = .slice (slM yb) (capL Ls).length m ∧ (yb = none → m = 0) ∧ RowM h2 yb (capL Ls) ∧ (∀ b, yb = some b → h.length ≤ b) ∧ Ext h h2) ?_ ?_
  · simp -dsimp -implicitDefEqProofs (disch := first | omega | (simp only [stT, u_3, ag_3, sz_3, by_3, ze_3, es_3, u_4, ag_4, sz_4, by_4, ze_4, bo_4, es_4, u_9, ag_9, sz_9, by_9, ze_9, es_9, u_22, ag_22, sz_22, by_22, ze_22, es_22, u_36, f_36_0, f_36_1, f_36_2, f_36_3, f_36_4, ag_36, sz_36, by_36, ze_36, pl_36, es_36, u_44, ag_44, sz_44, by_44, ze_44, es_44]; done) | (simp only [List.append_assoc, List.cons_append, List.nil_append, pre_n, pre_c, pre_a, pre_g, pre_r]; done) | (simp only [List.length_set]; done) | (simp only [List.length_set]; omega) | assumption | decide +kernel | fail) only [↓RP, RQ, isConstA, Nat.reduceEqDiff, Nat.reduceLT, Nat.reduceAdd, Int.reduceNeg, Int.reduceLT, Int.reduceLE, Int.reduceToNat, Int.reduceEq, ↓reduceIte, ite_true, ite_false, Option.toList, Nat.reduceMul, Nat.reduceSub, Nat.reduceLeDiff, ne_eq, eq_self, u_3, ag_3, sz_3, by_3, ze_3, es_3, u_4, ag_4, sz_4, by_4, ze_4, bo_4, es_4, u_9, ag_9, sz_9, by_9, ze_9, es_9, u_22, ag_22, sz_22, by_22, ze_22, es_22, u_36, f_36_0, f_36_1, f_36_2, f_36_3, f_36_4, ag_36, sz_36, by_36, ze_36, pl_36, es_36, u_44, ag_44, sz_44, by_44, ze_44, es_44, ↓AW_loop, f0, f6]
    refine LW_rule (fun q fr h2 => ∃ i yb m, q = Ls.length - i ∧ i ≤ Ls.length ∧ (fget fr 25 = .slice (some ⟨d, 0, none⟩) Ls.length z ∧ fget fr 26 = .int .i64 Ls.length ∧ fget fr 27 = .int .i64 i ∧ fget fr 6 = .slice (slM yb) (capL (Ls.take i)).length m) ∧ (yb = none → m = 0) ∧ RowM h2 yb (capL (Ls.take i)) ∧ (∀ b, yb = some b → h.length ≤ b) ∧ Ext h h2) ?_ Ls.length _ _ ⟨0, yb, 0, rfl, Nat.zero_le _, ?_⟩
    · rintro q fr h2 ⟨i, yb, m, rfl, hi, ⟨f25, f26, f27, f6⟩, hm, hr, hb, hE⟩
      by_cases hil : i < Ls.length
      · obtain ⟨t, ht⟩ : ∃ t, Ls[i]? = some t := ⟨_, List.getElem?_eq_getElem hil⟩
        have hc := hcell ht
        have hs := capL_snoc ht
        have hle := capL_le Ls (i + 1)
        have q1 : (i : Int) < Ls.length := by omega
        have hadd : (i : Int) + 1 = ((i + 1 : Nat) : Int) := by omega
        have hd2 := hE.blk hd
        obtain ⟨hsl, hsm⟩ := hls t (List.mem_of_getElem? ht)
        have hsl2 := hsl.mono hE
        obtain ⟨V, hV⟩ : ∃ V, Ls.map capV = V := ⟨_, rfl⟩
        rw [hV] at hd2 hc hml
        by_cases h0 : t.l.length = 0
        · have hl0 : t.l = [] := List.length_eq_zero_iff.1 h0
          rw [hl0, List.append_nil] at hs
          rcases hsl2 with ⟨e1, -⟩ | ⟨b, o, cells, e1, h2b, h3, h4⟩
          · have e2 := hsm e1
            rw [e1, e2, h0] at hc
            rcases hr with ⟨rfl, hr⟩ | ⟨c0, rfl, hr⟩
            · obtain rfl := hm rfl
              have hz : (capL (Ls.take i)).length = 0 := by rw [hr]; rfl
              rw [hz] at f6
              simp -dsimp -implicitDefEqProofs (disch := first | omega | (simp only [stT, u_3, ag_3, sz_3, by_3, ze_3, es_3, u_4, ag_4, sz_4, by_4, ze_4, bo_4, es_4, u_9, ag_9, sz_9, by_9, ze_9, es_9, u_22, ag_22, sz_22, by_22, ze_22, es_22, u_36, f_36_0, f_36_1, f_36_2, f_36_3, f_36_4, ag_36, sz_36, by_36, ze_36, pl_36, es_36, u_44, ag_44, sz_44, by_44, ze_44, es_44]; done) | (simp only [List.append_assoc, List.cons_append, List.nil_append, pre_n, pre_c, pre_a, pre_g, pre_r]; done) | (simp only [List.length_set]; done) | (simp only [List.length_set]; omega) | assumption | decide +kernel | fail) only [↓RP, RQ, isConstA, Nat.reduceEqDiff, Nat.reduceLT, Nat.reduceAdd, Int.reduceNeg, Int.reduceLT, Int.reduceLE, Int.reduceToNat, Int.reduceEq, ↓reduceIte, ite_true, ite_false, Option.toList, Nat.reduceMul, Nat.reduceSub, Nat.reduceLeDiff, ne_eq, eq_self, u_3, ag_3, sz_3, by_3, ze_3, es_3, u_4, ag_4, sz_4, by_4, ze_4, bo_4, es_4, u_9, ag_9, sz_9, by_9, ze_9, es_9, u_22, ag_22, sz_22, by_22, ze_22, es_22, u_36, f_36_0, f_36_1, f_36_2, f_36_3, f_36_4, ag_36, sz_36, by_36, ze_36, pl_36, es_36, u_44, ag_44, sz_44, by_44, ze_44, es_44, ↓AW_loop, f25, f26, f27, f6, q1, hd2, hc, hml, hadd, slM, Option.map_none]
              exact ⟨Ls.length - (i + 1), by omega, i + 1, none, 0, rfl, by omega, ⟨rfl, by rw [hs, hr]; rfl⟩, fun _ => rfl, .inl ⟨rfl, by rw [hs, hr]⟩, by simp, hE⟩
            · simp -dsimp -implicitDefEqProofs (disch := first | omega | (simp only [stT, u_3, ag_3, sz_3, by_3, ze_3, es_3, u_4, ag_4, sz_4, by_4, ze_4, bo_4, es_4, u_9, ag_9, sz_9, by_9, ze_9, es_9, u_22, ag_22, sz_22, by_22, ze_22, es_22, u_36, f_36_0, f_36_1, f_36_2, f_36_3, f_36_4, ag_36, sz_36, by_36, ze_36, pl_36, es_36, u_44, ag_44, sz_44, by_44, ze_44, es_44]; done) | (simp only [List.append_assoc, List.cons_append, List.nil_append, pre_n, pre_c, pre_a, pre_g, pre_r]; done) | (simp only [List.length_set]; done) | (simp only [List.length_set]; omega) | assumption | decide +kernel | fail) only [↓RP, RQ, isConstA, Nat.reduceEqDiff, Nat.reduceLT, Nat.reduceAdd, Int.reduceNeg, Int.reduceLT, Int.reduceLE, Int.reduceToNat, Int.reduceEq, ↓reduceIte, ite_true, ite_false, Option.toList, Nat.reduceMul, Nat.reduceSub, Nat.reduceLeDiff, ne_eq, eq_self, u_3, ag_3, sz_3, by_3, ze_3, es_3, u_4, ag_4, sz_4, by_4, ze_4, bo_4, es_4, u_9, ag_9, sz_9, by_9, ze_9, es_9, u_22, ag_22, sz_22, by_22, ze_22, es_22, u_36, f_36_0, f_36_1, f_36_2, f_36_3, f_36_4, ag_36, sz_36, by_36, ze_36, pl_36, es_36, u_44, ag_44, sz_44, by_44, ze_44, es_44, ↓AW_loop, f25, f26, f27, f6, q1, hd2, hc, hml, hadd, slM, Option.map_some]
              exact ⟨Ls.length - (i + 1), by omega, i + 1, some c0, m, rfl, by omega, ⟨rfl, by rw [hs]; rfl⟩, (fun e => by cases e), .inr ⟨c0, rfl, by rw [hs]; exact hr⟩, hb, hE⟩
          · rw [e1, h0] at hc
            rw [h0, Nat.zero_mul, List.take_zero] at h3
            rw [h0, Nat.zero_mul, Nat.add_zero] at h4
            rcases hr with ⟨rfl, hr⟩ | ⟨c0, rfl, hr⟩
            · obtain rfl := hm rfl
              have hz : (capL (Ls.take i)).length = 0 := by rw [hr]; rfl
              rw [hz] at f6
              simp -dsimp -implicitDefEqProofs (disch := first | omega | (simp only [stT, u_3, ag_3, sz_3, by_3, ze_3, es_3, u_4, ag_4, sz_4, by_4, ze_4, bo_4, es_4, u_9, ag_9, sz_9, by_9, ze_9, es_9, u_22, ag_22, sz_22, by_22, ze_22, es_22, u_36, f_36_0, f_36_1, f_36_2, f_36_3, f_36_4, ag_36, sz_36, by_36, ze_36, pl_36, es_36, u_44, ag_44, sz_44, by_44, ze_44, es_44]; done) | (simp only [List.append_assoc, List.cons_append, List.nil_append, pre_n, pre_c, pre_a, pre_g, pre_r]; done) | (simp only [List.length_set]; done) | (simp only [List.length_set]; omega) | assumption | decide +kernel | fail) only [↓RP, RQ, isConstA, Nat.reduceEqDiff, Nat.reduceLT, Nat.reduceAdd, Int.reduceNeg, Int.reduceLT, Int.reduceLE, Int.reduceToNat, Int.reduceEq, ↓reduceIte, ite_true, ite_false, Option.toList, Nat.reduceMul, Nat.reduceSub, Nat.reduceLeDiff, ne_eq, eq_self, u_3, ag_3, sz_3, by_3, ze_3, es_3, u_4, ag_4, sz_4, by_4, ze_4, bo_4, es_4, u_9, ag_9, sz_9, by_9, ze_9, es_9, u_22, ag_22, sz_22, by_22, ze_22, es_22, u_36, f_36_0, f_36_1, f_36_2, f_36_3, f_36_4, ag_36, sz_36, by_36, ze_36, pl_36, es_36, u_44, ag_44, sz_44, by_44, ze_44, es_44, ↓AW_loop, f25, f26, f27, f6, q1, hd2, hc, hml, hadd, slM, Option.map_none, h2b, h4]
              exact ⟨Ls.length - (i + 1), by omega, i + 1, none, 0, rfl, by omega, ⟨rfl, by rw [hs, hr]; rfl⟩, fun _ => rfl, .inl ⟨rfl, by rw [hs, hr]⟩, by simp, hE⟩
            · simp -dsimp -implicitDefEqProofs (disch := first | omega | (simp only [stT, u_3, ag_3, sz_3, by_3, ze_3, es_3, u_4, ag_4, sz_4, by_4, ze_4, bo_4, es_4, u_9, ag_9, sz_9, by_9, ze_9, es_9, u_22, ag_22, sz_22, by_22, ze_22, es_22, u_36, f_36_0, f_36_1, f_36_2, f_36_3, f_36_4, ag_36, sz_36, by_36, ze_36, pl_36, es_36, u_44, ag_44, sz_44, by_44, ze_44, es_44]; done) | (simp only [List.append_assoc, List.cons_append, List.nil_append, pre_n, pre_c, pre_a, pre_g, pre_r]; done) | (simp only [List.length_set]; done) | (simp only [List.length_set]; omega) | assumption | decide +kernel | fail) only [↓RP, RQ, isConstA, Nat.reduceEqDiff, Nat.reduceLT, Nat.reduceAdd, Int.reduceNeg, Int.reduceLT, Int.reduceLE, Int.reduceToNat, Int.reduceEq, ↓reduceIte, ite_true, ite_false, Option.toList, Nat.reduceMul, Nat.reduceSub, Nat.reduceLeDiff, ne_eq, eq_self, u_3, ag_3, sz_3, by_3, ze_3, es_3, u_4, ag_4, sz_4, by_4, ze_4, bo_4, es_4, u_9, ag_9, sz_9, by_9, ze_9, es_9, u_22, ag_22, sz_22, by_22, ze_22, es_22, u_36, f_36_0, f_36_1, f_36_2, f_36_3, f_36_4, ag_36, sz_36, by_36, ze_36, pl_36, es_36, u_44, ag_44, sz_44, by_44, ze_44, es_44, ↓AW_loop, f25, f26, f27, f6, q1, hd2, hc, hml, hadd, slM, Option.map_some, h2b, h4]
              exact ⟨Ls.length - (i + 1), by omega, i + 1, some c0, m, rfl, by omega, ⟨rfl, by rw [hs]; rfl⟩, (fun e => by cases e), .inr ⟨c0, rfl, by rw [hs]; exact hr⟩, hb, hE⟩
        · rcases hsl2 with ⟨-, e1⟩ | ⟨b, o, cells, e1, h2b, h3, h4⟩
          · rw [e1] at h0; exact absurd rfl h0
          · rw [e1] at hc
            have hB1 : ((capL (Ls.take i)).length + t.l.length) * 48 ≤ 140737488355328 := by rw [hs, List.length_append] at hle; omega
            have hB2 : (capL (Ls.take i)).length + t.l.length ≤ 9223372036854775807 := by rw [hs, List.length_append] at hle; omega
            have hall : (t.l.flatMap seenC).all oneCellA = true := by
              rw [List.all_flatMap]; exact List.all_eq_true.2 fun _ _ => rfl
            rcases hr with ⟨rfl, hr⟩ | ⟨c0, rfl, hr⟩
            · obtain rfl := hm rfl
              have hz : (capL (Ls.take i)).length = 0 := by rw [hr]; rfl
              rw [hz] at f6
              have hB3 : t.l.length * 48 ≤ 140737488355328 := by omega
              have hB4 : t.l.length ≤ 9223372036854775807 := by omega
              simp -dsimp -implicitDefEqProofs (disch := first | omega | (simp only [stT, u_3, ag_3, sz_3, by_3, ze_3, es_3, u_4, ag_4, sz_4, by_4, ze_4, bo_4, es_4, u_9, ag_9, sz_9, by_9, ze_9, es_9, u_22, ag_22, sz_22, by_22, ze_22, es_22, u_36, f_36_0, f_36_1, f_36_2, f_36_3, f_36_4, ag_36, sz_36, by_36, ze_36, pl_36, es_36, u_44, ag_44, sz_44, by_44, ze_44, es_44]; done) | (simp only [List.append_assoc, List.cons_append, List.nil_append, pre_n, pre_c, pre_a, pre_g, pre_r]; done) | (simp only [List.length_set]; done) | (simp only [List.length_set]; omega) | assumption | decide +kernel | fail) only [↓RP, RQ, isConstA, Nat.reduceEqDiff, Nat.reduceLT, Nat.reduceAdd, Int.reduceNeg, Int.reduceLT, Int.reduceLE, Int.reduceToNat, Int.reduceEq, ↓reduceIte, ite_true, ite_false, Option.toList, Nat.reduceMul, Nat.reduceSub, Nat.reduceLeDiff, ne_eq, eq_self, u_3, ag_3, sz_3, by_3, ze_3, es_3, u_4, ag_4, sz_4, by_4, ze_4, bo_4, es_4, u_9, ag_9, sz_9, by_9, ze_9, es_9, u_22, ag_22, sz_22, by_22, ze_22, es_22, u_36, f_36_0, f_36_1, f_36_2, f_36_3, f_36_4, ag_36, sz_36, by_36, ze_36, pl_36, es_36, u_44, ag_44, sz_44, by_44, ze_44, es_44, ↓AW_loop, f25, f26, f27, f6, q1, hd2, hc, hml, hadd, slM, Option.map_none, h2b, h3, h4, h0, hall, hB3, hB4]
              refine ⟨Ls.length - (i + 1), by omega, i + 1, some h2.length, t.l.length, rfl, by omega, ⟨rfl, by rw [hs, hr]; rfl⟩, (fun e => by cases e), .inr ⟨_, rfl, by rw [hs, hr]; exact blkA_new _ _⟩, fun b hb => by cases hb; exact hE.len, hE.app' _⟩
            · have hfl9 : ((capL (Ls.take i)).flatMap seenC).length = (capL (Ls.take i)).length * 5 := flatMap_len elE_len _
              have htk : ((capL (Ls.take i)).flatMap seenC).take ((capL (Ls.take i)).length * 5) = (capL (Ls.take i)).flatMap seenC := List.take_of_length_le (by omega)
              have hln : (capL (Ls.take i)).length * 5 ≤ ((capL (Ls.take i)).flatMap seenC).length := by omega
              simp -dsimp -implicitDefEqProofs (disch := first | omega | (simp only [stT, u_3, ag_3, sz_3, by_3, ze_3, es_3, u_4, ag_4, sz_4, by_4, ze_4, bo_4, es_4, u_9, ag_9, sz_9, by_9, ze_9, es_9, u_22, ag_22, sz_22, by_22, ze_22, es_22, u_36, f_36_0, f_36_1, f_36_2, f_36_3, f_36_4, ag_36, sz_36, by_36, ze_36, pl_36, es_36, u_44, ag_44, sz_44, by_44, ze_44, es_44]; done) | (simp only [List.append_assoc, List.cons_append, List.nil_append, pre_n, pre_c, pre_a, pre_g, pre_r]; done) | (simp only [List.length_set]; done) | (simp only [List.length_set]; omega) | assumption | decide +kernel | fail) only [↓RP, RQ, isConstA, Nat.reduceEqDiff, Nat.reduceLT, Nat.reduceAdd, Int.reduceNeg, Int.reduceLT, Int.reduceLE, Int.reduceToNat, Int.reduceEq, ↓reduceIte, ite_true, ite_false, Option.toList, Nat.reduceMul, Nat.reduceSub, Nat.reduceLeDiff, ne_eq, eq_self, u_3, ag_3, sz_3, by_3, ze_3, es_3, u_4, ag_4, sz_4, by_4, ze_4, bo_4, es_4, u_9, ag_9, sz_9, by_9, ze_9, es_9, u_22, ag_22, sz_22, by_22, ze_22, es_22, u_36, f_36_0, f_36_1, f_36_2, f_36_3, f_36_4, ag_36, sz_36, by_36, ze_36, pl_36, es_36, u_44, ag_44, sz_44, by_44, ze_44, es_44, ↓AW_loop, f25, f26, f27, f6, q1, hd2, hc, hml, hadd, slM, Option.map_some, h2b, h3, h4, h0, hall, hB1, hB2, hr, htk, hln]
              have hcl := hb c0 rfl
              refine ⟨Ls.length - (i + 1), by omega, i + 1, some h2.length, (capL (Ls.take i)).length + t.l.length, rfl, by omega, ⟨rfl, by rw [hs, List.length_append]; rfl⟩, (fun e => by cases e), .inr ⟨_, rfl, ?_⟩, fun b hb => by cases hb; exact hE.len, Ext.app' _ (Ext.set hE hcl _)⟩
              have := blkA_at0 (h := h2.set c0 none) (X := [some (AObj.cells ⟨(capL (Ls.take i)).flatMap seenC ++ t.l.flatMap seenC, 5, false⟩)])
              rw [List.length_set] at this
              rw [hs, List.flatMap_append, this]; rfl
      · have q1 : ¬ (i : Int) < Ls.length := by omega
        have hie : i = Ls.length := by omega
        subst hie
        rw [List.take_length] at f6 hr
        simp -dsimp -implicitDefEqProofs (disch := first | omega | (simp only [stT, u_3, ag_3, sz_3, by_3, ze_3, es_3, u_4, ag_4, sz_4, by_4, ze_4, bo_4, es_4, u_9, ag_9, sz_9, by_9, ze_9, es_9, u_22, ag_22, sz_22, by_22, ze_22, es_22, u_36, f_36_0, f_36_1, f_36_2, f_36_3, f_36_4, ag_36, sz_36, by_36, ze_36, pl_36, es_36, u_44, ag_44, sz_44, by_44, ze_44, es_44]; done) | (simp only [List.append_assoc, List.cons_append, List.nil_append, pre_n, pre_c, pre_a, pre_g, pre_r]; done) | (simp only [List.length_set]; done) | (simp only [List.length_set]; omega) | assumption | decide +kernel | fail) only [↓RP, RQ, isConstA, Nat.reduceEqDiff, Nat.reduceLT, Nat.reduceAdd, Int.reduceNeg, Int.reduceLT, Int.reduceLE, Int.reduceToNat, Int.reduceEq, ↓reduceIte, ite_true, ite_false, Option.toList, Nat.reduceMul, Nat.reduceSub, Nat.reduceLeDiff, ne_eq, eq_self, u_3, ag_3, sz_3, by_3, ze_3, es_3, u_4, ag_4, sz_4, by_4, ze_4, bo_4, es_4, u_9, ag_9, sz_9, by_9, ze_9, es_9, u_22, ag_22, sz_22, by_22, ze_22, es_22, u_36, f_36_0, f_36_1, f_36_2, f_36_3, f_36_4, ag_36, sz_36, by_36, ze_36, pl_36, es_36, u_44, ag_44, sz_44, by_44, ze_44, es_44, ↓AW_loop, f25, f26, f27, f6, q1]
        exact ⟨yb, m, rfl, hm, hr, hb, hE⟩
    · simp -dsimp -implicitDefEqProofs (disch := first | omega | (simp only [stT, u_3, ag_3, sz_3, by_3, ze_3, es_3, u_4, ag_4, sz_4, by_4, ze_4, bo_4, es_4, u_9, ag_9, sz_9, by_9, ze_9, es_9, u_22, ag_22, sz_22, by_22, ze_22, es_22, u_36, f_36_0, f_36_1, f_36_2, f_36_3, f_36_4, ag_36, sz_36, by_36, ze_36, pl_36, es_36, u_44, ag_44, sz_44, by_44, ze_44, es_44]; done) | (simp only [List.append_assoc, List.cons_append, List.nil_append, pre_n, pre_c, pre_a, pre_g, pre_r]; done) | (simp only [List.length_set]; done) | (simp only [List.length_set]; omega) | assumption | decide +kernel | fail) only [↓RP, RQ, isConstA, Nat.reduceEqDiff, Nat.reduceLT, Nat.reduceAdd, Int.reduceNeg, Int.reduceLT, Int.reduceLE, Int.reduceToNat, Int.reduceEq, ↓reduceIte, ite_true, ite_false, Option.toList, Nat.reduceMul, Nat.reduceSub, Nat.reduceLeDiff, ne_eq, eq_self, u_3, ag_3, sz_3, by_3, ze_3, es_3, u_4, ag_4, sz_4, by_4, ze_4, bo_4, es_4, u_9, ag_9, sz_9, by_9, ze_9, es_9, u_22, ag_22, sz_22, by_22, ze_22, es_22, u_36, f_36_0, f_36_1, f_36_2, f_36_3, f_36_4, ag_36, sz_36, by_36, ze_36, pl_36, es_36, u_44, ag_44, sz_44, by_44, ze_44, es_44, ↓AW_loop, f0, f6]
      exact ⟨rfl, fun _ => trivial, hr, hb, hE⟩
  rintro fr h2 ⟨yb, m, f6, hm, hr, hb, hE⟩
  simp -dsimp -implicitDefEqProofs (disch := first | omega | (simp only [stT, u_3, ag_3, sz_3, by_3, ze_3, es_3, u_4, ag_4, sz_4, by_4, ze_4, bo_4, es_4, u_9, ag_9, sz_9, by_9, ze_9, es_9, u_22, ag_22, sz_22, by_22, ze_22, es_22, u_36, f_36_0, f_36_1, f_36_2, f_36_3, f_36_4, ag_36, sz_36, by_36, ze_36, pl_36, es_36, u_44, ag_44, sz_44, by_44, ze_44, es_44]; done) | (simp only [List.append_assoc, List.cons_append, List.nil_append, pre_n, pre_c, pre_a, pre_g, pre_r]; done) | (simp only [List.length_set]; done) | (simp only [List.length_set]; omega) | assumption | decide +kernel | fail) only [↓RP, RQ, isConstA, Nat.reduceEqDiff, Nat.reduceLT, Nat.reduceAdd, Int.reduceNeg, Int.reduceLT, Int.reduceLE, Int.reduceToNat, Int.reduceEq, ↓reduceIte, ite_true, ite_false, Option.toList, Nat.reduceMul, Nat.reduceSub, Nat.reduceLeDiff, ne_eq, eq_self, u_3, ag_3, sz_3, by_3, ze_3, es_3, u_4, ag_4, sz_4, by_4, ze_4, bo_4, es_4, u_9, ag_9, sz_9, by_9, ze_9, es_9, u_22, ag_22, sz_22, by_22, ze_22, es_22, u_36, f_36_0, f_36_1, f_36_2, f_36_3, f_36_4, ag_36, sz_36, by_36, ze_36, pl_36, es_36, u_44, ag_44, sz_44, by_44, ze_44, es_44, ↓AW_loop, f6]
  exact ⟨yb, m, rfl, hm, hr, hb, hE⟩
end Go.Abs
/- Pm8: the walk of Merge. Conditions: none. -/
set_option maxRecDepth 100000
set_option linter.unusedSimpArgs false
set_option linter.unusedVariables false
namespace Go.Abs
open Go.Proofs Go.Abs.Srt
theorem Upd.toExt2 {h h1 h' : AHeap} {F F' : List Nat} (e : Ext h h1) (u : Upd h1 h' F F') (hn : ∀ q, q ∈ F → h.length ≤ q) : Ext h h' := by
  refine ⟨h'.drop h.length, ?_⟩
  have hl := e.len
  have hl2 := u.len
  have : h = h'.take h.length := by
    apply List.ext_getElem?
    intro i
    by_cases hi : i < h.length
    · rw [List.getElem?_take_of_lt hi, u.same i (by omega) (fun hm => by have := hn i hm; omega), e.get hi]
    · rw [List.getElem?_eq_none (by omega), List.getElem?_eq_none (by rw [List.length_take]; omega)]
  conv => rhs; lhs; rw [this]
  rw [List.take_append_drop]
theorem two : ((2 : Nat) : Int) = 2 := rfl
theorem p02 : (0 : Int) < 2 := by decide
theorem p12 : (1 : Int) < 2 := by decide
theorem p22 : ¬ (2 : Int) < 2 := by decide
theorem a01 : (0 : Int) + 1 = 1 := rfl
theorem a12 : (1 : Int) + 1 = 2 := rfl
theorem chain_all : ∀ (last : Nat) (l : List Seen), chainS last l → (∀ z, z ∈ l → z.fine ∧ last ≤ z.time) ∧ Sorted keyE l
  | _, [], _ => ⟨(fun z hz => by cases hz), List.Pairwise.nil⟩
  | last, x :: l, ⟨hx, h1, h2⟩ => by
    obtain ⟨h3, h4⟩ := chain_all x.time l h2
    refine ⟨fun z hz => ?_, List.pairwise_cons.2 ⟨fun z hz => ?_, h4⟩⟩
    · rcases List.mem_cons.1 hz with rfl | hz
      · exact ⟨hx, h1⟩
      · exact ⟨(h3 z hz).1, Nat.le_trans h1 (h3 z hz).2⟩
    · have := (h3 z hz).2
      show (x.time : Int) ≤ z.time
      omega
theorem chain_of : ∀ (last : Nat) (l : List Seen), (∀ z, z ∈ l → z.fine ∧ last ≤ z.time) → Sorted keyE l → chainS last l
  | _, [], _, _ => trivial
  | last, x :: l, h1, h2 => by
    obtain ⟨h3, h4⟩ := List.pairwise_cons.1 h2
    have hx := h1 x (List.mem_cons_self ..)
    refine ⟨hx.1, hx.2, chain_of x.time l (fun z hz => ⟨(h1 z (List.mem_cons_of_mem _ hz)).1, ?_⟩) h4⟩
    have : (x.time : Int) ≤ z.time := h3 z hz
    omega
section
variable {ro : Bool} {h : AHeap} {ax ay : Option Addr} {mx my : Nat}
theorem merge_no1 (x y : List Raw) (hx : RawSl ro h ax x) (hc : checkS x ≠ 0) : Quiet cx 13 [.slice ax x.length mx, .slice ay y.length my] h (.tuple #[.slice none 0 0, .int .i64 (checkS x)]) := by
  refine FW_f Try.func13 rfl (by decide +kernel) ?_
  simp -dsimp -implicitDefEqProofs (disch := first | omega | (simp only [stT, u_2, ag_2, sz_2, by_2, ze_2, es_2, u_3, ag_3, sz_3, by_3, ze_3, es_3, u_4, ag_4, sz_4, by_4, ze_4, bo_4, es_4, u_9, ag_9, sz_9, by_9, ze_9, es_9, u_22, ag_22, sz_22, by_22, ze_22, es_22, u_23, ag_23, sz_23, by_23, ze_23, es_23, u_36, f_36_0, f_36_1, f_36_2, f_36_3, f_36_4, ag_36, sz_36, by_36, ze_36, pl_36, es_36, u_44, ag_44, sz_44, by_44, ze_44, es_44, u_47, ag_47, sz_47, by_47, ze_47, es_47]; done) | (simp only [List.append_assoc, List.cons_append, List.nil_append, pre_n, pre_c, pre_a, pre_g, pre_r]; done) | (simp only [List.length_set]; done) | (simp only [List.length_set]; omega) | assumption | decide +kernel | fail) only [↓RP, RQ, isConstA, Nat.reduceEqDiff, Nat.reduceLT, Nat.reduceAdd, Int.reduceNeg, Int.reduceLT, Int.reduceLE, Int.reduceToNat, Int.reduceEq, ↓reduceIte, ite_true, ite_false, Option.toList, Nat.reduceMul, Nat.reduceSub, Nat.reduceLeDiff, ne_eq, eq_self, u_2, ag_2, sz_2, by_2, ze_2, es_2, u_3, ag_3, sz_3, by_3, ze_3, es_3, u_4, ag_4, sz_4, by_4, ze_4, bo_4, es_4, u_9, ag_9, sz_9, by_9, ze_9, es_9, u_22, ag_22, sz_22, by_22, ze_22, es_22, u_23, ag_23, sz_23, by_23, ze_23, es_23, u_36, f_36_0, f_36_1, f_36_2, f_36_3, f_36_4, ag_36, sz_36, by_36, ze_36, pl_36, es_36, u_44, ag_44, sz_44, by_44, ze_44, es_44, u_47, ag_47, sz_47, by_47, ze_47, es_47, ↓AW_loop]
  refine LW_unfold ?_
  simp -dsimp -implicitDefEqProofs (disch := first | omega | (simp only [stT, u_2, ag_2, sz_2, by_2, ze_2, es_2, u_3, ag_3, sz_3, by_3, ze_3, es_3, u_4, ag_4, sz_4, by_4, ze_4, bo_4, es_4, u_9, ag_9, sz_9, by_9, ze_9, es_9, u_22, ag_22, sz_22, by_22, ze_22, es_22, u_23, ag_23, sz_23, by_23, ze_23, es_23, u_36, f_36_0, f_36_1, f_36_2, f_36_3, f_36_4, ag_36, sz_36, by_36, ze_36, pl_36, es_36, u_44, ag_44, sz_44, by_44, ze_44, es_44, u_47, ag_47, sz_47, by_47, ze_47, es_47]; done) | (simp only [List.append_assoc, List.cons_append, List.nil_append, pre_n, pre_c, pre_a, pre_g, pre_r]; done) | (simp only [List.length_set]; done) | (simp only [List.length_set]; omega) | assumption | decide +kernel | fail) only [↓RP, RQ, isConstA, Nat.reduceEqDiff, Nat.reduceLT, Nat.reduceAdd, Int.reduceNeg, Int.reduceLT, Int.reduceLE, Int.reduceToNat, Int.reduceEq, ↓reduceIte, ite_true, ite_false, Option.toList, Nat.reduceMul, Nat.reduceSub, Nat.reduceLeDiff, ne_eq, eq_self, u_2, ag_2, sz_2, by_2, ze_2, es_2, u_3, ag_3, sz_3, by_3, ze_3, es_3, u_4, ag_4, sz_4, by_4, ze_4, bo_4, es_4, u_9, ag_9, sz_9, by_9, ze_9, es_9, u_22, ag_22, sz_22, by_22, ze_22, es_22, u_23, ag_23, sz_23, by_23, ze_23, es_23, u_36, f_36_0, f_36_1, f_36_2, f_36_3, f_36_4, ag_36, sz_36, by_36, ze_36, pl_36, es_36, u_44, ag_44, sz_44, by_44, ze_44, es_44, u_47, ag_47, sz_47, by_47, ze_47, es_47, ↓AW_loop, two, p02]
  refine (check_q x (hx.app _)).use' fun g => ?_
  simp -dsimp -implicitDefEqProofs (disch := first | omega | (simp only [stT, u_2, ag_2, sz_2, by_2, ze_2, es_2, u_3, ag_3, sz_3, by_3, ze_3, es_3, u_4, ag_4, sz_4, by_4, ze_4, bo_4, es_4, u_9, ag_9, sz_9, by_9, ze_9, es_9, u_22, ag_22, sz_22, by_22, ze_22, es_22, u_23, ag_23, sz_23, by_23, ze_23, es_23, u_36, f_36_0, f_36_1, f_36_2, f_36_3, f_36_4, ag_36, sz_36, by_36, ze_36, pl_36, es_36, u_44, ag_44, sz_44, by_44, ze_44, es_44, u_47, ag_47, sz_47, by_47, ze_47, es_47]; done) | (simp only [List.append_assoc, List.cons_append, List.nil_append, pre_n, pre_c, pre_a, pre_g, pre_r]; done) | (simp only [List.length_set]; done) | (simp only [List.length_set]; omega) | assumption | decide +kernel | fail) only [↓RP, RQ, isConstA, Nat.reduceEqDiff, Nat.reduceLT, Nat.reduceAdd, Int.reduceNeg, Int.reduceLT, Int.reduceLE, Int.reduceToNat, Int.reduceEq, ↓reduceIte, ite_true, ite_false, Option.toList, Nat.reduceMul, Nat.reduceSub, Nat.reduceLeDiff, ne_eq, eq_self, u_2, ag_2, sz_2, by_2, ze_2, es_2, u_3, ag_3, sz_3, by_3, ze_3, es_3, u_4, ag_4, sz_4, by_4, ze_4, bo_4, es_4, u_9, ag_9, sz_9, by_9, ze_9, es_9, u_22, ag_22, sz_22, by_22, ze_22, es_22, u_23, ag_23, sz_23, by_23, ze_23, es_23, u_36, f_36_0, f_36_1, f_36_2, f_36_3, f_36_4, ag_36, sz_36, by_36, ze_36, pl_36, es_36, u_44, ag_44, sz_44, by_44, ze_44, es_44, u_47, ag_47, sz_47, by_47, ze_47, es_47, ↓AW_loop, hc]
  exact Ext.app _ _
/-- Two captures that are in order: what is checked ahead. -/
theorem merge_no2 (x y : List Raw) (hx : RawSl ro h ax x) (hy : RawSl ro h ay y) (hc : checkS x = 0) (hc2 : checkS y ≠ 0) : Quiet cx 13 [.slice ax x.length mx, .slice ay y.length my] h (.tuple #[.slice none 0 0, .int .i64 (checkS y)]) := by
  refine FW_f Try.func13 rfl (by decide +kernel) ?_
  simp -dsimp -implicitDefEqProofs (disch := first | omega | (simp only [stT, u_2, ag_2, sz_2, by_2, ze_2, es_2, u_3, ag_3, sz_3, by_3, ze_3, es_3, u_4, ag_4, sz_4, by_4, ze_4, bo_4, es_4, u_9, ag_9, sz_9, by_9, ze_9, es_9, u_22, ag_22, sz_22, by_22, ze_22, es_22, u_23, ag_23, sz_23, by_23, ze_23, es_23, u_36, f_36_0, f_36_1, f_36_2, f_36_3, f_36_4, ag_36, sz_36, by_36, ze_36, pl_36, es_36, u_44, ag_44, sz_44, by_44, ze_44, es_44, u_47, ag_47, sz_47, by_47, ze_47, es_47]; done) | (simp only [List.append_assoc, List.cons_append, List.nil_append, pre_n, pre_c, pre_a, pre_g, pre_r]; done) | (simp only [List.length_set]; done) | (simp only [List.length_set]; omega) | assumption | decide +kernel | fail) only [↓RP, RQ, isConstA, Nat.reduceEqDiff, Nat.reduceLT, Nat.reduceAdd, Int.reduceNeg, Int.reduceLT, Int.reduceLE, Int.reduceToNat, Int.reduceEq, ↓reduceIte, ite_true, ite_false, Option.toList, Nat.reduceMul, Nat.reduceSub, Nat.reduceLeDiff, ne_eq, eq_self, u_2, ag_2, sz_2, by_2, ze_2, es_2, u_3, ag_3, sz_3, by_3, ze_3, es_3, u_4, ag_4, sz_4, by_4, ze_4, bo_4, es_4, u_9, ag_9, sz_9, by_9, ze_9, es_9, u_22, ag_22, sz_22, by_22, ze_22, es_22, u_23, ag_23, sz_23, by_23, ze_23, es_23, u_36, f_36_0, f_36_1, f_36_2, f_36_3, f_36_4, ag_36, sz_36, by_36, ze_36, pl_36, es_36, u_44, ag_44, sz_44, by_44, ze_44, es_44, u_47, ag_47, sz_47, by_47, ze_47, es_47, ↓AW_loop]
  refine LW_unfold ?_
  simp -dsimp -implicitDefEqProofs (disch := first | omega | (simp only [stT, u_2, ag_2, sz_2, by_2, ze_2, es_2, u_3, ag_3, sz_3, by_3, ze_3, es_3, u_4, ag_4, sz_4, by_4, ze_4, bo_4, es_4, u_9, ag_9, sz_9, by_9, ze_9, es_9, u_22, ag_22, sz_22, by_22, ze_22, es_22, u_23, ag_23, sz_23, by_23, ze_23, es_23, u_36, f_36_0, f_36_1, f_36_2, f_36_3, f_36_4, ag_36, sz_36, by_36, ze_36, pl_36, es_36, u_44, ag_44, sz_44, by_44, ze_44, es_44, u_47, ag_47, sz_47, by_47, ze_47, es_47]; done) | (simp only [List.append_assoc, List.cons_append, List.nil_append, pre_n, pre_c, pre_a, pre_g, pre_r]; done) | (simp only [List.length_set]; done) | (simp only [List.length_set]; omega) | assumption | decide +kernel | fail) only [↓RP, RQ, isConstA, Nat.reduceEqDiff, Nat.reduceLT, Nat.reduceAdd, Int.reduceNeg, Int.reduceLT, Int.reduceLE, Int.reduceToNat, Int.reduceEq, ↓reduceIte, ite_true, ite_false, Option.toList, Nat.reduceMul, Nat.reduceSub, Nat.reduceLeDiff, ne_eq, eq_self, u_2, ag_2, sz_2, by_2, ze_2, es_2, u_3, ag_3, sz_3, by_3, ze_3, es_3, u_4, ag_4, sz_4, by_4, ze_4, bo_4, es_4, u_9, ag_9, sz_9, by_9, ze_9, es_9, u_22, ag_22, sz_22, by_22, ze_22, es_22, u_23, ag_23, sz_23, by_23, ze_23, es_23, u_36, f_36_0, f_36_1, f_36_2, f_36_3, f_36_4, ag_36, sz_36, by_36, ze_36, pl_36, es_36, u_44, ag_44, sz_44, by_44, ze_44, es_44, u_47, ag_47, sz_47, by_47, ze_47, es_47, ↓AW_loop, two, p02]
  refine (check_q x (hx.app _)).use' fun g => ?_
  simp -dsimp -implicitDefEqProofs (disch := first | omega | (simp only [stT, u_2, ag_2, sz_2, by_2, ze_2, es_2, u_3, ag_3, sz_3, by_3, ze_3, es_3, u_4, ag_4, sz_4, by_4, ze_4, bo_4, es_4, u_9, ag_9, sz_9, by_9, ze_9, es_9, u_22, ag_22, sz_22, by_22, ze_22, es_22, u_23, ag_23, sz_23, by_23, ze_23, es_23, u_36, f_36_0, f_36_1, f_36_2, f_36_3, f_36_4, ag_36, sz_36, by_36, ze_36, pl_36, es_36, u_44, ag_44, sz_44, by_44, ze_44, es_44, u_47, ag_47, sz_47, by_47, ze_47, es_47]; done) | (simp only [List.append_assoc, List.cons_append, List.nil_append, pre_n, pre_c, pre_a, pre_g, pre_r]; done) | (simp only [List.length_set]; done) | (simp only [List.length_set]; omega) | assumption | decide +kernel | fail) only [↓RP, RQ, isConstA, Nat.reduceEqDiff, Nat.reduceLT, Nat.reduceAdd, Int.reduceNeg, Int.reduceLT, Int.reduceLE, Int.reduceToNat, Int.reduceEq, ↓reduceIte, ite_true, ite_false, Option.toList, Nat.reduceMul, Nat.reduceSub, Nat.reduceLeDiff, ne_eq, eq_self, u_2, ag_2, sz_2, by_2, ze_2, es_2, u_3, ag_3, sz_3, by_3, ze_3, es_3, u_4, ag_4, sz_4, by_4, ze_4, bo_4, es_4, u_9, ag_9, sz_9, by_9, ze_9, es_9, u_22, ag_22, sz_22, by_22, ze_22, es_22, u_23, ag_23, sz_23, by_23, ze_23, es_23, u_36, f_36_0, f_36_1, f_36_2, f_36_3, f_36_4, ag_36, sz_36, by_36, ze_36, pl_36, es_36, u_44, ag_44, sz_44, by_44, ze_44, es_44, u_47, ag_47, sz_47, by_47, ze_47, es_47, ↓AW_loop, hc, a01]
  refine LW_unfold ?_
  simp -dsimp -implicitDefEqProofs (disch := first | omega | (simp only [stT, u_2, ag_2, sz_2, by_2, ze_2, es_2, u_3, ag_3, sz_3, by_3, ze_3, es_3, u_4, ag_4, sz_4, by_4, ze_4, bo_4, es_4, u_9, ag_9, sz_9, by_9, ze_9, es_9, u_22, ag_22, sz_22, by_22, ze_22, es_22, u_23, ag_23, sz_23, by_23, ze_23, es_23, u_36, f_36_0, f_36_1, f_36_2, f_36_3, f_36_4, ag_36, sz_36, by_36, ze_36, pl_36, es_36, u_44, ag_44, sz_44, by_44, ze_44, es_44, u_47, ag_47, sz_47, by_47, ze_47, es_47]; done) | (simp only [List.append_assoc, List.cons_append, List.nil_append, pre_n, pre_c, pre_a, pre_g, pre_r]; done) | (simp only [List.length_set]; done) | (simp only [List.length_set]; omega) | assumption | decide +kernel | fail) only [↓RP, RQ, isConstA, Nat.reduceEqDiff, Nat.reduceLT, Nat.reduceAdd, Int.reduceNeg, Int.reduceLT, Int.reduceLE, Int.reduceToNat, Int.reduceEq, ↓reduceIte, ite_true, ite_false, Option.toList, Nat.reduceMul, Nat.reduceSub, Nat.reduceLeDiff, ne_eq, eq_self, u_2, ag_2, sz_2, by_2, ze_2, es_2, u_3, ag_3, sz_3, by_3, ze_3, es_3, u_4, ag_4, sz_4, by_4, ze_4, bo_4, es_4, u_9, ag_9, sz_9, by_9, ze_9, es_9, u_22, ag_22, sz_22, by_22, ze_22, es_22, u_23, ag_23, sz_23, by_23, ze_23, es_23, u_36, f_36_0, f_36_1, f_36_2, f_36_3, f_36_4, ag_36, sz_36, by_36, ze_36, pl_36, es_36, u_44, ag_44, sz_44, by_44, ze_44, es_44, u_47, ag_47, sz_47, by_47, ze_47, es_47, ↓AW_loop, two, p12]
  refine (check_q y (hy.app _)).use' fun g => ?_
  simp -dsimp -implicitDefEqProofs (disch := first | omega | (simp only [stT, u_2, ag_2, sz_2, by_2, ze_2, es_2, u_3, ag_3, sz_3, by_3, ze_3, es_3, u_4, ag_4, sz_4, by_4, ze_4, bo_4, es_4, u_9, ag_9, sz_9, by_9, ze_9, es_9, u_22, ag_22, sz_22, by_22, ze_22, es_22, u_23, ag_23, sz_23, by_23, ze_23, es_23, u_36, f_36_0, f_36_1, f_36_2, f_36_3, f_36_4, ag_36, sz_36, by_36, ze_36, pl_36, es_36, u_44, ag_44, sz_44, by_44, ze_44, es_44, u_47, ag_47, sz_47, by_47, ze_47, es_47]; done) | (simp only [List.append_assoc, List.cons_append, List.nil_append, pre_n, pre_c, pre_a, pre_g, pre_r]; done) | (simp only [List.length_set]; done) | (simp only [List.length_set]; omega) | assumption | decide +kernel | fail) only [↓RP, RQ, isConstA, Nat.reduceEqDiff, Nat.reduceLT, Nat.reduceAdd, Int.reduceNeg, Int.reduceLT, Int.reduceLE, Int.reduceToNat, Int.reduceEq, ↓reduceIte, ite_true, ite_false, Option.toList, Nat.reduceMul, Nat.reduceSub, Nat.reduceLeDiff, ne_eq, eq_self, u_2, ag_2, sz_2, by_2, ze_2, es_2, u_3, ag_3, sz_3, by_3, ze_3, es_3, u_4, ag_4, sz_4, by_4, ze_4, bo_4, es_4, u_9, ag_9, sz_9, by_9, ze_9, es_9, u_22, ag_22, sz_22, by_22, ze_22, es_22, u_23, ag_23, sz_23, by_23, ze_23, es_23, u_36, f_36_0, f_36_1, f_36_2, f_36_3, f_36_4, ag_36, sz_36, by_36, ze_36, pl_36, es_36, u_44, ag_44, sz_44, by_44, ze_44, es_44, u_47, ag_47, sz_47, by_47, ze_47, es_47, ↓AW_loop, hc2]
  exact Ext.app _ _
theorem merge_ok (x y L : List Seen) (hL : x ++ y = L) (hx : SeenSl ro h ax x) (hy : SeenSl ro h ay y) (hmx : ax = none → mx = 0) (hmy : ay = none → my = 0) (hc : chainS 0 x) (hc2 : chainS 0 y) (hlx : x.length ≤ 20) (hly : y.length ≤ 20) :
    FW cx 13 [.slice ax x.length mx, .slice ay y.length my] h fun v h' => ∃ yb m, v = .tuple #[.slice (slM yb) L.length m, .int .i64 0] ∧ RowM h' yb (isort keyE L) ∧ Ext h h' := by
  refine FW_f Try.func13 rfl (by decide +kernel) ?_
  have c1 : checkS (x.map Seen.raw) = 0 := by unfold checkS; rw [if_neg (by rw [List.length_map]; omega)]; exact chain_check 0 x hc
  have c2 : checkS (y.map Seen.raw) = 0 := by unfold checkS; rw [if_neg (by rw [List.length_map]; omega)]; exact chain_check 0 y hc2
  have hcx := fun X => check_q (m := mx) (x.map Seen.raw) (SlA.app (SlA.raw hx) X)
  have hcy := fun X => check_q (m := my) (y.map Seen.raw) (SlA.app (SlA.raw hy) X)
  rw [c1, List.length_map] at hcx
  rw [c2, List.length_map] at hcy
  simp -dsimp -implicitDefEqProofs (disch := first | omega | (simp only [stT, u_2, ag_2, sz_2, by_2, ze_2, es_2, u_3, ag_3, sz_3, by_3, ze_3, es_3, u_4, ag_4, sz_4, by_4, ze_4, bo_4, es_4, u_9, ag_9, sz_9, by_9, ze_9, es_9, u_22, ag_22, sz_22, by_22, ze_22, es_22, u_23, ag_23, sz_23, by_23, ze_23, es_23, u_36, f_36_0, f_36_1, f_36_2, f_36_3, f_36_4, ag_36, sz_36, by_36, ze_36, pl_36, es_36, u_44, ag_44, sz_44, by_44, ze_44, es_44, u_47, ag_47, sz_47, by_47, ze_47, es_47]; done) | (simp only [List.append_assoc, List.cons_append, List.nil_append, pre_n, pre_c, pre_a, pre_g, pre_r]; done) | (simp only [List.length_set]; done) | (simp only [List.length_set]; omega) | assumption | decide +kernel | fail) only [↓RP, RQ, isConstA, Nat.reduceEqDiff, Nat.reduceLT, Nat.reduceAdd, Int.reduceNeg, Int.reduceLT, Int.reduceLE, Int.reduceToNat, Int.reduceEq, ↓reduceIte, ite_true, ite_false, Option.toList, Nat.reduceMul, Nat.reduceSub, Nat.reduceLeDiff, ne_eq, eq_self, u_2, ag_2, sz_2, by_2, ze_2, es_2, u_3, ag_3, sz_3, by_3, ze_3, es_3, u_4, ag_4, sz_4, by_4, ze_4, bo_4, es_4, u_9, ag_9, sz_9, by_9, ze_9, es_9, u_22, ag_22, sz_22, by_22, ze_22, es_22, u_23, ag_23, sz_23, by_23, ze_23, es_23, u_36, f_36_0, f_36_1, f_36_2, f_36_3, f_36_4, ag_36, sz_36, by_36, ze_36, pl_36, es_36, u_44, ag_44, sz_44, by_44, ze_44, es_44, u_47, ag_47, sz_47, by_47, ze_47, es_47, ↓AW_loop]
  refine LW_unfold ?_
  simp -dsimp -implicitDefEqProofs (disch := first | omega | (simp only [stT, u_2, ag_2, sz_2, by_2, ze_2, es_2, u_3, ag_3, sz_3, by_3, ze_3, es_3, u_4, ag_4, sz_4, by_4, ze_4, bo_4, es_4, u_9, ag_9, sz_9, by_9, ze_9, es_9, u_22, ag_22, sz_22, by_22, ze_22, es_22, u_23, ag_23, sz_23, by_23, ze_23, es_23, u_36, f_36_0, f_36_1, f_36_2, f_36_3, f_36_4, ag_36, sz_36, by_36, ze_36, pl_36, es_36, u_44, ag_44, sz_44, by_44, ze_44, es_44, u_47, ag_47, sz_47, by_47, ze_47, es_47]; done) | (simp only [List.append_assoc, List.cons_append, List.nil_append, pre_n, pre_c, pre_a, pre_g, pre_r]; done) | (simp only [List.length_set]; done) | (simp only [List.length_set]; omega) | assumption | decide +kernel | fail) only [↓RP, RQ, isConstA, Nat.reduceEqDiff, Nat.reduceLT, Nat.reduceAdd, Int.reduceNeg, Int.reduceLT, Int.reduceLE, Int.reduceToNat, Int.reduceEq, ↓reduceIte, ite_true, ite_false, Option.toList, Nat.reduceMul, Nat.reduceSub, Nat.reduceLeDiff, ne_eq, eq_self, u_2, ag_2, sz_2, by_2, ze_2, es_2, u_3, ag_3, sz_3, by_3, ze_3, es_3, u_4, ag_4, sz_4, by_4, ze_4, bo_4, es_4, u_9, ag_9, sz_9, by_9, ze_9, es_9, u_22, ag_22, sz_22, by_22, ze_22, es_22, u_23, ag_23, sz_23, by_23, ze_23, es_23, u_36, f_36_0, f_36_1, f_36_2, f_36_3, f_36_4, ag_36, sz_36, by_36, ze_36, pl_36, es_36, u_44, ag_44, sz_44, by_44, ze_44, es_44, u_47, ag_47, sz_47, by_47, ze_47, es_47, ↓AW_loop, two, p02]
  refine (hcx _).use' fun g => ?_
  simp -dsimp -implicitDefEqProofs (disch := first | omega | (simp only [stT, u_2, ag_2, sz_2, by_2, ze_2, es_2, u_3, ag_3, sz_3, by_3, ze_3, es_3, u_4, ag_4, sz_4, by_4, ze_4, bo_4, es_4, u_9, ag_9, sz_9, by_9, ze_9, es_9, u_22, ag_22, sz_22, by_22, ze_22, es_22, u_23, ag_23, sz_23, by_23, ze_23, es_23, u_36, f_36_0, f_36_1, f_36_2, f_36_3, f_36_4, ag_36, sz_36, by_36, ze_36, pl_36, es_36, u_44, ag_44, sz_44, by_44, ze_44, es_44, u_47, ag_47, sz_47, by_47, ze_47, es_47]; done) | (simp only [List.append_assoc, List.cons_append, List.nil_append, pre_n, pre_c, pre_a, pre_g, pre_r]; done) | (simp only [List.length_set]; done) | (simp only [List.length_set]; omega) | assumption | decide +kernel | fail) only [↓RP, RQ, isConstA, Nat.reduceEqDiff, Nat.reduceLT, Nat.reduceAdd, Int.reduceNeg, Int.reduceLT, Int.reduceLE, Int.reduceToNat, Int.reduceEq, ↓reduceIte, ite_true, ite_false, Option.toList, Nat.reduceMul, Nat.reduceSub, Nat.reduceLeDiff, ne_eq, eq_self, u_2, ag_2, sz_2, by_2, ze_2, es_2, u_3, ag_3, sz_3, by_3, ze_3, es_3, u_4, ag_4, sz_4, by_4, ze_4, bo_4, es_4, u_9, ag_9, sz_9, by_9, ze_9, es_9, u_22, ag_22, sz_22, by_22, ze_22, es_22, u_23, ag_23, sz_23, by_23, ze_23, es_23, u_36, f_36_0, f_36_1, f_36_2, f_36_3, f_36_4, ag_36, sz_36, by_36, ze_36, pl_36, es_36, u_44, ag_44, sz_44, by_44, ze_44, es_44, u_47, ag_47, sz_47, by_47, ze_47, es_47, ↓AW_loop, a01]
  refine LW_unfold ?_
  simp -dsimp -implicitDefEqProofs (disch := first | omega | (simp only [stT, u_2, ag_2, sz_2, by_2, ze_2, es_2, u_3, ag_3, sz_3, by_3, ze_3, es_3, u_4, ag_4, sz_4, by_4, ze_4, bo_4, es_4, u_9, ag_9, sz_9, by_9, ze_9, es_9, u_22, ag_22, sz_22, by_22, ze_22, es_22, u_23, ag_23, sz_23, by_23, ze_23, es_23, u_36, f_36_0, f_36_1, f_36_2, f_36_3, f_36_4, ag_36, sz_36, by_36, ze_36, pl_36, es_36, u_44, ag_44, sz_44, by_44, ze_44, es_44, u_47, ag_47, sz_47, by_47, ze_47, es_47]; done) | (simp only [List.append_assoc, List.cons_append, List.nil_append, pre_n, pre_c, pre_a, pre_g, pre_r]; done) | (simp only [List.length_set]; done) | (simp only [List.length_set]; omega) | assumption | decide +kernel | fail) only [↓RP, RQ, isConstA, Nat.reduceEqDiff, Nat.reduceLT, Nat.reduceAdd, Int.reduceNeg, Int.reduceLT, Int.reduceLE, Int.reduceToNat, Int.reduceEq, ↓reduceIte, ite_true, ite_false, Option.toList, Nat.reduceMul, Nat.reduceSub, Nat.reduceLeDiff, ne_eq, eq_self, u_2, ag_2, sz_2, by_2, ze_2, es_2, u_3, ag_3, sz_3, by_3, ze_3, es_3, u_4, ag_4, sz_4, by_4, ze_4, bo_4, es_4, u_9, ag_9, sz_9, by_9, ze_9, es_9, u_22, ag_22, sz_22, by_22, ze_22, es_22, u_23, ag_23, sz_23, by_23, ze_23, es_23, u_36, f_36_0, f_36_1, f_36_2, f_36_3, f_36_4, ag_36, sz_36, by_36, ze_36, pl_36, es_36, u_44, ag_44, sz_44, by_44, ze_44, es_44, u_47, ag_47, sz_47, by_47, ze_47, es_47, ↓AW_loop, two, p12]
  refine (hcy _).use' fun g2 => ?_
  simp -dsimp -implicitDefEqProofs (disch := first | omega | (simp only [stT, u_2, ag_2, sz_2, by_2, ze_2, es_2, u_3, ag_3, sz_3, by_3, ze_3, es_3, u_4, ag_4, sz_4, by_4, ze_4, bo_4, es_4, u_9, ag_9, sz_9, by_9, ze_9, es_9, u_22, ag_22, sz_22, by_22, ze_22, es_22, u_23, ag_23, sz_23, by_23, ze_23, es_23, u_36, f_36_0, f_36_1, f_36_2, f_36_3, f_36_4, ag_36, sz_36, by_36, ze_36, pl_36, es_36, u_44, ag_44, sz_44, by_44, ze_44, es_44, u_47, ag_47, sz_47, by_47, ze_47, es_47]; done) | (simp only [List.append_assoc, List.cons_append, List.nil_append, pre_n, pre_c, pre_a, pre_g, pre_r]; done) | (simp only [List.length_set]; done) | (simp only [List.length_set]; omega) | assumption | decide +kernel | fail) only [↓RP, RQ, isConstA, Nat.reduceEqDiff, Nat.reduceLT, Nat.reduceAdd, Int.reduceNeg, Int.reduceLT, Int.reduceLE, Int.reduceToNat, Int.reduceEq, ↓reduceIte, ite_true, ite_false, Option.toList, Nat.reduceMul, Nat.reduceSub, Nat.reduceLeDiff, ne_eq, eq_self, u_2, ag_2, sz_2, by_2, ze_2, es_2, u_3, ag_3, sz_3, by_3, ze_3, es_3, u_4, ag_4, sz_4, by_4, ze_4, bo_4, es_4, u_9, ag_9, sz_9, by_9, ze_9, es_9, u_22, ag_22, sz_22, by_22, ze_22, es_22, u_23, ag_23, sz_23, by_23, ze_23, es_23, u_36, f_36_0, f_36_1, f_36_2, f_36_3, f_36_4, ag_36, sz_36, by_36, ze_36, pl_36, es_36, u_44, ag_44, sz_44, by_44, ze_44, es_44, u_47, ag_47, sz_47, by_47, ze_47, es_47, ↓AW_loop, a12]
  refine LW_unfold ?_
  have hsum : ¬ (400 : Int) < (x.length : Int) + y.length := by omega
  simp -dsimp -implicitDefEqProofs (disch := first | omega | (simp only [stT, u_2, ag_2, sz_2, by_2, ze_2, es_2, u_3, ag_3, sz_3, by_3, ze_3, es_3, u_4, ag_4, sz_4, by_4, ze_4, bo_4, es_4, u_9, ag_9, sz_9, by_9, ze_9, es_9, u_22, ag_22, sz_22, by_22, ze_22, es_22, u_23, ag_23, sz_23, by_23, ze_23, es_23, u_36, f_36_0, f_36_1, f_36_2, f_36_3, f_36_4, ag_36, sz_36, by_36, ze_36, pl_36, es_36, u_44, ag_44, sz_44, by_44, ze_44, es_44, u_47, ag_47, sz_47, by_47, ze_47, es_47]; done) | (simp only [List.append_assoc, List.cons_append, List.nil_append, pre_n, pre_c, pre_a, pre_g, pre_r]; done) | (simp only [List.length_set]; done) | (simp only [List.length_set]; omega) | assumption | decide +kernel | fail) only [↓RP, RQ, isConstA, Nat.reduceEqDiff, Nat.reduceLT, Nat.reduceAdd, Int.reduceNeg, Int.reduceLT, Int.reduceLE, Int.reduceToNat, Int.reduceEq, ↓reduceIte, ite_true, ite_false, Option.toList, Nat.reduceMul, Nat.reduceSub, Nat.reduceLeDiff, ne_eq, eq_self, u_2, ag_2, sz_2, by_2, ze_2, es_2, u_3, ag_3, sz_3, by_3, ze_3, es_3, u_4, ag_4, sz_4, by_4, ze_4, bo_4, es_4, u_9, ag_9, sz_9, by_9, ze_9, es_9, u_22, ag_22, sz_22, by_22, ze_22, es_22, u_23, ag_23, sz_23, by_23, ze_23, es_23, u_36, f_36_0, f_36_1, f_36_2, f_36_3, f_36_4, ag_36, sz_36, by_36, ze_36, pl_36, es_36, u_44, ag_44, sz_44, by_44, ze_44, es_44, u_47, ag_47, sz_47, by_47, ze_47, es_47, ↓AW_loop, two, p22, hsum]
  obtain ⟨c0, hc0⟩ : ∃ c0, (some (AObj.cells ⟨[Value.slice ax x.length mx, Value.slice ay y.length my], 1, false⟩)) = c0 := ⟨_, rfl⟩
  have hd : blkA (h ++ c0 :: (g ++ (g2 ++ [c0]))) (h.length + (g.length + g2.length + 1)) = some ⟨[.slice ax x.length mx, .slice ay y.length my], 1, false⟩ := by
    have := blkA_new (h ++ c0 :: (g ++ g2)) ⟨[.slice ax x.length mx, .slice ay y.length my], 1, false⟩
    rw [hc0] at this
    simpa [List.append_assoc] using this
  rw [hc0]
  have hE0 : Ext h (h ++ c0 :: (g ++ (g2 ++ [c0]))) := .app _ _
  generalize h ++ c0 :: (g ++ (g2 ++ [c0])) = h1 at *
  generalize h.length + (g.length + g2.length + 1) = d at *
  have hq := concat_q [⟨ax, mx, x⟩, ⟨ay, my, y⟩] (z := 2) (ro := ro) hd (fun t ht => by
    simp only [List.mem_cons, List.not_mem_nil, or_false] at ht
    rcases ht with rfl | rfl
    · exact ⟨hx.mono hE0, hmx⟩
    · exact ⟨hy.mono hE0, hmy⟩) (by simp) (by simp [capL]; omega)
  have hcap : capL [⟨ax, mx, x⟩, ⟨ay, my, y⟩] = x ++ y := by simp [capL]
  rw [hcap, hL] at hq
  refine FW.mono hq (fun v h2 hv => ?_)
  obtain ⟨yb, m, rfl, hm, hr, hb, hE⟩ := hv
  have hlen : L.length ≤ 40 := by rw [← hL, List.length_append]; omega
  have hE2 := hE0.trans hE
  simp -dsimp -implicitDefEqProofs (disch := first | omega | (simp only [stT, u_2, ag_2, sz_2, by_2, ze_2, es_2, u_3, ag_3, sz_3, by_3, ze_3, es_3, u_4, ag_4, sz_4, by_4, ze_4, bo_4, es_4, u_9, ag_9, sz_9, by_9, ze_9, es_9, u_22, ag_22, sz_22, by_22, ze_22, es_22, u_23, ag_23, sz_23, by_23, ze_23, es_23, u_36, f_36_0, f_36_1, f_36_2, f_36_3, f_36_4, ag_36, sz_36, by_36, ze_36, pl_36, es_36, u_44, ag_44, sz_44, by_44, ze_44, es_44, u_47, ag_47, sz_47, by_47, ze_47, es_47]; done) | (simp only [List.append_assoc, List.cons_append, List.nil_append, pre_n, pre_c, pre_a, pre_g, pre_r]; done) | (simp only [List.length_set]; done) | (simp only [List.length_set]; omega) | assumption | decide +kernel | fail) only [↓RP, RQ, isConstA, Nat.reduceEqDiff, Nat.reduceLT, Nat.reduceAdd, Int.reduceNeg, Int.reduceLT, Int.reduceLE, Int.reduceToNat, Int.reduceEq, ↓reduceIte, ite_true, ite_false, Option.toList, Nat.reduceMul, Nat.reduceSub, Nat.reduceLeDiff, ne_eq, eq_self, u_2, ag_2, sz_2, by_2, ze_2, es_2, u_3, ag_3, sz_3, by_3, ze_3, es_3, u_4, ag_4, sz_4, by_4, ze_4, bo_4, es_4, u_9, ag_9, sz_9, by_9, ze_9, es_9, u_22, ag_22, sz_22, by_22, ze_22, es_22, u_23, ag_23, sz_23, by_23, ze_23, es_23, u_36, f_36_0, f_36_1, f_36_2, f_36_3, f_36_4, ag_36, sz_36, by_36, ze_36, pl_36, es_36, u_44, ag_44, sz_44, by_44, ze_44, es_44, u_47, ag_47, sz_47, by_47, ze_47, es_47, ↓AW_loop]
  rcases hr with ⟨rfl, hr⟩ | ⟨b, rfl, hr⟩
  · obtain rfl := hm rfl
    have hLn : L = [] := hr
    clear hcap hq
    subst hLn
    refine FW.mono sort_none (fun v h3 hv => ?_)
    obtain ⟨rfl, rfl⟩ := hv
    simp -dsimp -implicitDefEqProofs (disch := first | omega | (simp only [stT, u_2, ag_2, sz_2, by_2, ze_2, es_2, u_3, ag_3, sz_3, by_3, ze_3, es_3, u_4, ag_4, sz_4, by_4, ze_4, bo_4, es_4, u_9, ag_9, sz_9, by_9, ze_9, es_9, u_22, ag_22, sz_22, by_22, ze_22, es_22, u_23, ag_23, sz_23, by_23, ze_23, es_23, u_36, f_36_0, f_36_1, f_36_2, f_36_3, f_36_4, ag_36, sz_36, by_36, ze_36, pl_36, es_36, u_44, ag_44, sz_44, by_44, ze_44, es_44, u_47, ag_47, sz_47, by_47, ze_47, es_47]; done) | (simp only [List.append_assoc, List.cons_append, List.nil_append, pre_n, pre_c, pre_a, pre_g, pre_r]; done) | (simp only [List.length_set]; done) | (simp only [List.length_set]; omega) | assumption | decide +kernel | fail) only [↓RP, RQ, isConstA, Nat.reduceEqDiff, Nat.reduceLT, Nat.reduceAdd, Int.reduceNeg, Int.reduceLT, Int.reduceLE, Int.reduceToNat, Int.reduceEq, ↓reduceIte, ite_true, ite_false, Option.toList, Nat.reduceMul, Nat.reduceSub, Nat.reduceLeDiff, ne_eq, eq_self, u_2, ag_2, sz_2, by_2, ze_2, es_2, u_3, ag_3, sz_3, by_3, ze_3, es_3, u_4, ag_4, sz_4, by_4, ze_4, bo_4, es_4, u_9, ag_9, sz_9, by_9, ze_9, es_9, u_22, ag_22, sz_22, by_22, ze_22, es_22, u_23, ag_23, sz_23, by_23, ze_23, es_23, u_36, f_36_0, f_36_1, f_36_2, f_36_3, f_36_4, ag_36, sz_36, by_36, ze_36, pl_36, es_36, u_44, ag_44, sz_44, by_44, ze_44, es_44, u_47, ag_47, sz_47, by_47, ze_47, es_47, ↓AW_loop]
    exact ⟨none, 0, rfl, .inl ⟨rfl, rfl⟩, hE2⟩
  · refine FW.mono (sort_q L hr hlen (fun z hz => ?_)) (fun v h3 hv => ?_)
    · rw [← hL] at hz
      have hf : z.fine := by
        rcases List.mem_append.1 hz with hz | hz
        · exact ((chain_all 0 x hc).1 z hz).1
        · exact ((chain_all 0 y hc2).1 z hz).1
      have := hf.1
      unfold okE; omega
    obtain ⟨rfl, r3, u3⟩ := hv
    simp -dsimp -implicitDefEqProofs (disch := first | omega | (simp only [stT, u_2, ag_2, sz_2, by_2, ze_2, es_2, u_3, ag_3, sz_3, by_3, ze_3, es_3, u_4, ag_4, sz_4, by_4, ze_4, bo_4, es_4, u_9, ag_9, sz_9, by_9, ze_9, es_9, u_22, ag_22, sz_22, by_22, ze_22, es_22, u_23, ag_23, sz_23, by_23, ze_23, es_23, u_36, f_36_0, f_36_1, f_36_2, f_36_3, f_36_4, ag_36, sz_36, by_36, ze_36, pl_36, es_36, u_44, ag_44, sz_44, by_44, ze_44, es_44, u_47, ag_47, sz_47, by_47, ze_47, es_47]; done) | (simp only [List.append_assoc, List.cons_append, List.nil_append, pre_n, pre_c, pre_a, pre_g, pre_r]; done) | (simp only [List.length_set]; done) | (simp only [List.length_set]; omega) | assumption | decide +kernel | fail) only [↓RP, RQ, isConstA, Nat.reduceEqDiff, Nat.reduceLT, Nat.reduceAdd, Int.reduceNeg, Int.reduceLT, Int.reduceLE, Int.reduceToNat, Int.reduceEq, ↓reduceIte, ite_true, ite_false, Option.toList, Nat.reduceMul, Nat.reduceSub, Nat.reduceLeDiff, ne_eq, eq_self, u_2, ag_2, sz_2, by_2, ze_2, es_2, u_3, ag_3, sz_3, by_3, ze_3, es_3, u_4, ag_4, sz_4, by_4, ze_4, bo_4, es_4, u_9, ag_9, sz_9, by_9, ze_9, es_9, u_22, ag_22, sz_22, by_22, ze_22, es_22, u_23, ag_23, sz_23, by_23, ze_23, es_23, u_36, f_36_0, f_36_1, f_36_2, f_36_3, f_36_4, ag_36, sz_36, by_36, ze_36, pl_36, es_36, u_44, ag_44, sz_44, by_44, ze_44, es_44, u_47, ag_47, sz_47, by_47, ze_47, es_47, ↓AW_loop]
    exact ⟨some b, m, rfl, .inr ⟨b, rfl, r3⟩, Upd.toExt2 hE2 u3 (by simpa using Nat.le_trans hE0.len (hb b rfl))⟩
end
end Go.Abs
