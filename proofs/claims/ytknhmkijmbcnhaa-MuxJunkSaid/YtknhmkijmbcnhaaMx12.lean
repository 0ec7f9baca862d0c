/- Mx12: the law MuxJunk. Conditions: none. -/
import Derived.Test.YtknhmkijmbcnhaaMx11
set_option maxRecDepth 100000
set_option linter.unusedSimpArgs false
set_option linter.unusedVariables false
namespace Go.Abs
open Go.Proofs
theorem last_ge (m : MuxS) : ∀ (l : List Strm) (acc : Nat), (∀ s, s ∈ l → ownS m s.id = false) → (l.map (·.id)).Pairwise (· < ·) → (∀ s, s ∈ l → acc ≤ s.id) →
    acc ≤ l.foldl (fun a s => if ownS m s.id = true then a else s.id) acc ∧ ∀ s, s ∈ l → s.id ≤ l.foldl (fun a s => if ownS m s.id = true then a else s.id) acc
  | [], acc, _, _, _ => ⟨Nat.le_refl _, fun s h => by simp at h⟩
  | x :: l, acc, ho, hp, ha => by
    rw [List.map_cons, List.pairwise_cons] at hp
    have hx := ho x List.mem_cons_self
    obtain ⟨i1, i2⟩ := last_ge m l x.id (fun s hs => ho s (List.mem_cons_of_mem _ hs)) hp.2 (fun s hs => Nat.le_of_lt (hp.1 _ (List.mem_map_of_mem hs)))
    have hax := ha x List.mem_cons_self
    rw [List.foldl_cons, hx, if_neg (by decide)]
    refine ⟨Nat.le_trans hax i1, fun s hs => ?_⟩
    rcases List.mem_cons.1 hs with rfl | hs
    · exact i1
    · exact i2 s hs
/-- What holds of the second end while only the first one opens streams. -/
structure JInv (m : MuxS) : Prop where
  fst : m.first = false
  win : m.window ≤ 256
  odd : ∀ s, s ∈ m.streams → s.id % 2 = 1
  pw : (m.streams.map (·.id)).Pairwise (· < ·)
  len : m.streams.length ≤ 16
  bs : ∀ s, s ∈ m.streams → s.window ≤ 256 ∧ s.room ≤ 256 ∧ s.inn.length + m.got.length ≤ 2 ^ 30
  gl : m.got.length ≤ 2 ^ 30
theorem JInv.oth {m : MuxS} (j : JInv m) : ∀ s, s ∈ m.streams → ownS m s.id = false := by
  intro s hs
  unfold ownS
  rw [j.fst, j.odd s hs]; rfl
theorem JInv.safe {m : MuxS} (j : JInv m) {id : Nat} {body : List UInt8} (h : openedE m id body = 0) : (∀ s, s ∈ m.streams → s.id < id) ∧ id % 2 = 1 ∧ m.streams.length < 16 := by
  unfold openedE at h
  split at h
  · simp at h
  · rename_i hn
    split at h
    · simp at h
    · rename_i hc
      have h1 := (last_ge m m.streams 0 j.oth j.pw (fun _ _ => Nat.zero_le _)).2
      refine ⟨fun s hs => ?_, ?_, ?_⟩
      · have := h1 s hs
        have h2 : ¬ id ≤ lastS m m.streams := fun h => hn (.inr (.inr (.inl h)))
        unfold lastS at h2
        omega
      · have h2 : ¬ ownS m id = true := fun h => hn (.inr (.inl h))
        unfold ownS at h2
        rw [j.fst] at h2
        by_cases ho : id % 2 = 1
        · exact ho
        · simp [ho] at h2
      · have : countS m false m.streams = m.streams.length := by
          unfold countS
          rw [List.filter_eq_self.2 (fun s hs => by rw [j.oth s hs]; rfl)]
        have := j.len
        omega
theorem bodyS_id (s : Strm) (kind : Nat) (body : List UInt8) : (bodyS s kind body).id = s.id := by
  unfold bodyS
  repeat' split
  all_goals rfl
theorem map_set_id {l : List Strm} {i : Nat} {s t : Strm} (hs : l[i]? = some s) (ht : t.id = s.id) : (l.set i t).map (·.id) = l.map (·.id) := by
  rw [List.map_set, ht]
  apply List.ext_getElem?
  intro j
  by_cases hij : i = j
  · subst hij
    rw [List.getElem?_set_self (by rw [List.length_map]; exact (List.getElem?_eq_some_iff.1 hs).1), List.getElem?_map, hs]; rfl
  · rw [List.getElem?_set_ne hij]
theorem JInv.cut {m : MuxS} (j : JInv m) (g : List UInt8) (h : g.length ≤ m.got.length) : JInv { m with got := g } :=
  ⟨j.fst, j.win, j.odd, j.pw, j.len, fun s hs => by have := j.bs s hs; simp only; omega, by have := j.gl; simp only; omega⟩
theorem JInv.step {m : MuxS} (j : JInv m) (g : List UInt8) (kind id : Nat) (body : List UInt8) (h : g.length + body.length ≤ m.got.length) : JInv (gotM { m with got := g } kind id body) := by
  have j1 := j.cut g (by omega)
  have hgl := j.gl
  unfold gotM
  split
  · unfold openedM
    split
    · rename_i he
      obtain ⟨s1, s2, s3⟩ := j1.safe he
      refine ⟨j.fst, j.win, fun s hs => ?_, ?_, ?_, fun s hs => ?_, j1.gl⟩
      · rcases List.mem_append.1 hs with hs | hs
        · exact j.odd s hs
        · rw [List.mem_singleton] at hs; subst hs; exact s2
      · simp only [List.map_append, List.map_cons, List.map_nil]
        rw [List.pairwise_append]
        refine ⟨j.pw, by simp, fun a ha b hb => ?_⟩
        rw [List.mem_singleton] at hb; subst hb
        obtain ⟨s, hs, rfl⟩ := List.mem_map.1 ha
        exact s1 s hs
      · simp only [List.length_append, List.length_singleton]
        have : m.streams.length < 16 := s3
        omega
      · rcases List.mem_append.1 hs with hs | hs
        · exact j1.bs s hs
        · rw [List.mem_singleton] at hs; subst hs
          have := j.win
          simp only [newStrm, List.length_nil]
          omega
    · exact j1
  · rename_i k2
    split
    · exact j1
    · rename_i he
      split
      · exact j1
      · rename_i s hsi
        have hmem := List.mem_of_getElem? hsi
        have hb := j.bs s hmem
        refine ⟨j.fst, j.win, fun t ht => ?_, ?_, by simp only [List.length_set]; exact j.len, fun t ht => ?_, j1.gl⟩
        · rcases List.mem_or_eq_of_mem_set ht with ht | rfl
          · exact j.odd t ht
          · rw [bodyS_id]; exact j.odd s hmem
        · simp only
          rw [map_set_id hsi (bodyS_id _ _ _)]; exact j.pw
        · rcases List.mem_or_eq_of_mem_set ht with ht | rfl
          · exact j1.bs t ht
          · simp only
            unfold bodyS
            split
            · simp only
              split
              · omega
              · simp only [List.length_append]; omega
            · split
              · simp only; omega
              · split
                · simp only [List.length_nil]; omega
                · have hwin := j.win
                  have h0 : gotE { m with got := g } kind id body = 0 := by simpa using he
                  unfold gotE at h0
                  rw [if_neg k2] at h0
                  split at h0
                  · simp at h0
                  · split at h0
                    · simp at h0
                    · rw [hsi] at h0
                      simp only at h0
                      unfold bodyE at h0
                      split at h0
                      · simp at h0
                      · split at h0
                        · simp at h0
                        · split at h0
                          · simp at h0
                          · split at h0
                            · simp at h0
                            · rename_i hr _ _ _ _ h5
                              simp only at h5 ⊢
                              have k5 : kind = 5 := by omega
                              have : ¬ (m.window < s.window + two body) := fun hh => h5 ⟨k5, .inr hh⟩
                              omega
theorem JInv.ok : InOk JInv where
  safe m j id body h := (j.safe h).1
  bnd m j := ⟨by have := j.len; omega, by have := j.win; omega, by have := j.gl; omega, fun s hs => by have := j.bs s hs; have := j.gl; omega⟩
  cut m g j h := j.cut g h
  step m g kind id body j h := j.step g kind id body h
theorem JInv.new (w : Nat) (hw : w ≤ 256) : JInv (newM false w) := ⟨rfl, hw, fun s h => by simp [newM] at h, by simp [newM], by simp [newM], fun s h => by simp [newM] at h, by simp [newM]⟩
/-- Who said an error is broken; who said none is not. -/
theorem inR_broken : ∀ (k : Nat) (m : MuxS), m.broken = false → ((inR k m).1 = 0 → (inR k m).2.broken = false) ∧ ((inR k m).1 ≠ 0 → (inR k m).2.broken = true) := by
  intro k
  induction k with
  | zero => intro m h; simp [inR, h]
  | succ k ih =>
    intro m h
    rw [inR]
    split
    · simp [h]
    · split
      · simp
      · split
        · simp [h]
        · split
          · rename_i he; exact ⟨fun h0 => absurd h0 he, fun _ => rfl⟩
          · exact ih _ (by rw [(gotM_got _ _ _ _).2]; exact h)
theorem out_broken (m : MuxS) (most : Nat) {h : AHeap} {p : Nat} {sb : Option Nat} {ids : List Nat} (a : MuxAt h p sb ids m) (hb : m.broken = true) :
    FW cx 14 [ptrC p, .int .i64 most] h fun v h' => v = .string (str []) ∧ MuxAt h' p sb ids m ∧ Upd h h' (foot p sb ids) (foot p sb ids) := by
  refine FW_f Try.func14 rfl (by decide +kernel) ?_
  simp -dsimp -implicitDefEqProofs (disch := first | omega | (simp only [stT, ptT, u_2, ag_2, sz_2, by_2, ze_2, es_2, u_3, ag_3, sz_3, by_3, ze_3, es_3, u_4, ag_4, sz_4, by_4, ze_4, bo_4, es_4, u_5, ag_5, sz_5, by_5, ze_5, u8_5, es_5, u_6, ag_6, sz_6, by_6, ze_6, u8_6, es_6, u_8, f_8_0, f_8_1, f_8_2, f_8_3, ag_8, sz_8, by_8, ze_8, pl_8, es_8, u_9, ag_9, sz_9, by_9, ze_9, es_9, u_26, ag_26, sz_26, by_26, ze_26, es_26, u_53, ag_53, sz_53, by_53, ze_53, es_53, u_55, f_55_0, f_55_1, f_55_2, f_55_3, f_55_4, f_55_5, f_55_6, f_55_7, f_55_8, ag_55, sz_55, by_55, ze_55, pl_55, es_55, u_57, ag_57, sz_57, by_57, ze_57, es_57]; done) | (simp only [List.append_assoc, List.cons_append, List.nil_append, pre_n, pre_c, pre_a, pre_g, pre_r]; done) | (simp only [List.length_set]; done) | (simp only [List.length_set]; omega) | assumption | decide +kernel | fail) only [↓RWn, ↓RWc, ↓RWg', gsome, ↓PWn, ↓PWs, someP_s, someP_n, evA_tmp, evA_int, evA_str, evA_bool, evA_nilp, evA_nils, evA_nilf, evA_nili, evA_func, evL_n, evL_c, evP_n, evP_c, ↓CW_eq, ↓CB_bool, ↓GW_t, ↓GW_f, ↓OW_move, ↓OW_assign, ↓OW_pick, ↓OW_nilCheck, ↓OW_bin, ↓OW_un, ↓OW_makeFunc, ↓OW_fieldAddr, ↓OW_field, ↓OW_indexAddr, ↓OW_index, ↓OW_extract, ↓OW_build, ↓OW_len, ↓OW_min, ↓OW_max, ↓OW_load, ↓OW_store, ↓OW_alloc, ↓OW_box, ↓OW_convert, ↓OW_slice, ↓OW_buildSlice, ↓OW_makeSlice, ↓OW_call, ↓OW_append, b_add, b_sub, b_mul, b_quo, b_rem, b_and32, b_or32, b_xor32, b_and8, b_or8, b_xor8, ofInt32, b_eql, b_neq, b_lss, b_leq, b_gtr, b_geq, bb_eql, bb_neq, un_not, un_neg, un_xor32, isConstA, conv_int, conv_int2, ↓AW_skip, ↓AW_ret, ↓AW_exit, ↓AW_reg, ↓AW_cond, ↓AW_block, ↓tQn, ↓tQe, ↓tQr, ↓bQn, ↓bQe, ↓bQr, ↓rQn, ↓rQr, res_n, res_t, res_c, one1, one0, one2, fget_set, fget_cons0, fget_consS, Nat.reduceEqDiff, Nat.reduceLT, Nat.reduceAdd, Int.reduceNeg, Int.reduceLT, Int.reduceLE, Int.reduceToNat, Int.reduceEq, ↓reduceIte, Int.toNat_natCast, Nat.mul_one, Nat.zero_add, Nat.add_zero, and_self, true_and, and_true, ite_true, ite_false, decide_eq_true_eq, Bool.false_eq_true, List.toList_toArray, List.getElem?_toArray, List.getElem?_cons_zero, List.getElem?_cons_succ, Option.toList, List.nil_append, List.append_nil, List.cons_append, ↓AW_draw, ↓RWDn, ↓RWDc, ↓RWDg', ↓DQ_move, ↓DQ_assign, ↓DQ_pick, ↓DQ_nilCheck, ↓DQ_bin, ↓DQ_un, ↓DQ_makeFunc, ↓DQ_makeIface, ↓DQ_fieldAddr, ↓DQ_field, ↓DQ_indexAddr, ↓DQ_index, ↓DQ_extract, ↓DQ_build, ↓DQ_len, ↓DQ_min, ↓DQ_max, ↓DQ_load, ↓DQ_convert, ↓DQ_slice, ↓DQ_alloc, ↓DQ_box, ↓DQ_buildSlice, ↓DQ_makeSlice, ↓DQ_range, ↓AW_seq, sP_ite, sP_ite2, sP_map, sP_bind, nth_0, nth_S, nth_g, nth_g0, loadA_eq, loadK_1, loadK_n, storeA_eq, storeK_s, put_n, put_c, c_int, c_str, c_bool, c_ptr, c_sl, c_fn, c_nf, c_ni, c_agg, o_int, o_str, o_bool, o_ptr, o_sl, o_fn, o_nf, o_ni, all_n, all_c, all_a, build_s, fillL_n, fillL_c, bslice, mslice, app_nil, app_some, app_type, more_nil, more_some, more_str, takeA_eq, str_mk, str_size, str_data, str_app, ss_add, ss_eql, ss_neq, bd_nn, bd_ni, bd_in, bd_ii, slice_str, index_str, len_str, len_sl', cv_sb, idx_sl, slT, stT, part_1, part_n, List.append_assoc, List.length_append, List.length_cons, List.length_nil, List.set_cons_zero, List.set_cons_succ, List.getElem?_nil, List.size_toArray, Nat.reduceMul, Nat.reduceSub, Nat.reduceLeDiff, List.drop_zero, List.drop_succ_cons, List.take_succ_cons, List.take_zero, List.drop_nil, List.take_nil, Bool.and_true, Bool.true_and, Bool.and_self, not_true_eq_false, not_false_eq_true, ne_eq, Nat.le_refl, Option.isSome_some, List.length_replicate, List.length_map, Option.getD_some, wrap64, strOf_map, shl_1, shl_2, shl_3, shl_4, shl_8, shl_16, shl_24, shr_1, shr_2, shr_3, shr_4, shr_8, and_1, and_7, b_or64, decide_true, decide_false, Bool.or_true, Bool.or_false, Bool.not_true, Bool.not_false, Bool.not_not, b_shr32l, ↓DQ_pre, Int.natCast_nonneg, takeMap, bytesV_str, all_byteV, eq_self, decide_not, Nat.sub_zero, Int.sub_zero, Int.zero_add, Int.add_zero, takeDrop, takeAll, cast0, cast1, rep0, rep1, rep2, rep3, rep4, nth_gs, nth_gs0, set_gs, set_gs0, List.length_set, set_base, blk_setB, blk_setB0, blk_setN, blk_setN0, set_atH, set_atH0, blk_atH, blk_atH0, set_twice, slice_nil, slice_some, nil_eqP, nil_neP, ptT, Option.isNone_none, Option.isNone_some, or_true, true_or, or_false, false_or, ↓DQ_mt, u_2, ag_2, sz_2, by_2, ze_2, es_2, u_3, ag_3, sz_3, by_3, ze_3, es_3, u_4, ag_4, sz_4, by_4, ze_4, bo_4, es_4, u_5, ag_5, sz_5, by_5, ze_5, u8_5, es_5, u_6, ag_6, sz_6, by_6, ze_6, u8_6, es_6, u_8, f_8_0, f_8_1, f_8_2, f_8_3, ag_8, sz_8, by_8, ze_8, pl_8, es_8, u_9, ag_9, sz_9, by_9, ze_9, es_9, u_26, ag_26, sz_26, by_26, ze_26, es_26, u_53, ag_53, sz_53, by_53, ze_53, es_53, u_55, f_55_0, f_55_1, f_55_2, f_55_3, f_55_4, f_55_5, f_55_6, f_55_7, f_55_8, ag_55, sz_55, by_55, ze_55, pl_55, es_55, u_57, ag_57, sz_57, by_57, ze_57, es_57, ↓AW_loop, ptrC]
  refine LW_rule (fun n fr h' => h' = h ∧ fget fr 5 = .string (str []) ∧ fget fr 0 = ptrC p) ?_ 0 _ _ ⟨rfl, ?_⟩
  · rintro n fr h' ⟨rfl, f5, f0⟩
    simp -dsimp -implicitDefEqProofs (disch := first | omega | (simp only [stT, ptT, u_2, ag_2, sz_2, by_2, ze_2, es_2, u_3, ag_3, sz_3, by_3, ze_3, es_3, u_4, ag_4, sz_4, by_4, ze_4, bo_4, es_4, u_5, ag_5, sz_5, by_5, ze_5, u8_5, es_5, u_6, ag_6, sz_6, by_6, ze_6, u8_6, es_6, u_8, f_8_0, f_8_1, f_8_2, f_8_3, ag_8, sz_8, by_8, ze_8, pl_8, es_8, u_9, ag_9, sz_9, by_9, ze_9, es_9, u_26, ag_26, sz_26, by_26, ze_26, es_26, u_53, ag_53, sz_53, by_53, ze_53, es_53, u_55, f_55_0, f_55_1, f_55_2, f_55_3, f_55_4, f_55_5, f_55_6, f_55_7, f_55_8, ag_55, sz_55, by_55, ze_55, pl_55, es_55, u_57, ag_57, sz_57, by_57, ze_57, es_57]; done) | (simp only [List.append_assoc, List.cons_append, List.nil_append, pre_n, pre_c, pre_a, pre_g, pre_r]; done) | (simp only [List.length_set]; done) | (simp only [List.length_set]; omega) | assumption | decide +kernel | fail) only [↓RWn, ↓RWc, ↓RWg', gsome, ↓PWn, ↓PWs, someP_s, someP_n, evA_tmp, evA_int, evA_str, evA_bool, evA_nilp, evA_nils, evA_nilf, evA_nili, evA_func, evL_n, evL_c, evP_n, evP_c, ↓CW_eq, ↓CB_bool, ↓GW_t, ↓GW_f, ↓OW_move, ↓OW_assign, ↓OW_pick, ↓OW_nilCheck, ↓OW_bin, ↓OW_un, ↓OW_makeFunc, ↓OW_fieldAddr, ↓OW_field, ↓OW_indexAddr, ↓OW_index, ↓OW_extract, ↓OW_build, ↓OW_len, ↓OW_min, ↓OW_max, ↓OW_load, ↓OW_store, ↓OW_alloc, ↓OW_box, ↓OW_convert, ↓OW_slice, ↓OW_buildSlice, ↓OW_makeSlice, ↓OW_call, ↓OW_append, b_add, b_sub, b_mul, b_quo, b_rem, b_and32, b_or32, b_xor32, b_and8, b_or8, b_xor8, ofInt32, b_eql, b_neq, b_lss, b_leq, b_gtr, b_geq, bb_eql, bb_neq, un_not, un_neg, un_xor32, isConstA, conv_int, conv_int2, ↓AW_skip, ↓AW_ret, ↓AW_exit, ↓AW_reg, ↓AW_cond, ↓AW_block, ↓tQn, ↓tQe, ↓tQr, ↓bQn, ↓bQe, ↓bQr, ↓rQn, ↓rQr, res_n, res_t, res_c, one1, one0, one2, fget_set, fget_cons0, fget_consS, Nat.reduceEqDiff, Nat.reduceLT, Nat.reduceAdd, Int.reduceNeg, Int.reduceLT, Int.reduceLE, Int.reduceToNat, Int.reduceEq, ↓reduceIte, Int.toNat_natCast, Nat.mul_one, Nat.zero_add, Nat.add_zero, and_self, true_and, and_true, ite_true, ite_false, decide_eq_true_eq, Bool.false_eq_true, List.toList_toArray, List.getElem?_toArray, List.getElem?_cons_zero, List.getElem?_cons_succ, Option.toList, List.nil_append, List.append_nil, List.cons_append, ↓AW_draw, ↓RWDn, ↓RWDc, ↓RWDg', ↓DQ_move, ↓DQ_assign, ↓DQ_pick, ↓DQ_nilCheck, ↓DQ_bin, ↓DQ_un, ↓DQ_makeFunc, ↓DQ_makeIface, ↓DQ_fieldAddr, ↓DQ_field, ↓DQ_indexAddr, ↓DQ_index, ↓DQ_extract, ↓DQ_build, ↓DQ_len, ↓DQ_min, ↓DQ_max, ↓DQ_load, ↓DQ_convert, ↓DQ_slice, ↓DQ_alloc, ↓DQ_box, ↓DQ_buildSlice, ↓DQ_makeSlice, ↓DQ_range, ↓AW_seq, sP_ite, sP_ite2, sP_map, sP_bind, nth_0, nth_S, nth_g, nth_g0, loadA_eq, loadK_1, loadK_n, storeA_eq, storeK_s, put_n, put_c, c_int, c_str, c_bool, c_ptr, c_sl, c_fn, c_nf, c_ni, c_agg, o_int, o_str, o_bool, o_ptr, o_sl, o_fn, o_nf, o_ni, all_n, all_c, all_a, build_s, fillL_n, fillL_c, bslice, mslice, app_nil, app_some, app_type, more_nil, more_some, more_str, takeA_eq, str_mk, str_size, str_data, str_app, ss_add, ss_eql, ss_neq, bd_nn, bd_ni, bd_in, bd_ii, slice_str, index_str, len_str, len_sl', cv_sb, idx_sl, slT, stT, part_1, part_n, List.append_assoc, List.length_append, List.length_cons, List.length_nil, List.set_cons_zero, List.set_cons_succ, List.getElem?_nil, List.size_toArray, Nat.reduceMul, Nat.reduceSub, Nat.reduceLeDiff, List.drop_zero, List.drop_succ_cons, List.take_succ_cons, List.take_zero, List.drop_nil, List.take_nil, Bool.and_true, Bool.true_and, Bool.and_self, not_true_eq_false, not_false_eq_true, ne_eq, Nat.le_refl, Option.isSome_some, List.length_replicate, List.length_map, Option.getD_some, wrap64, strOf_map, shl_1, shl_2, shl_3, shl_4, shl_8, shl_16, shl_24, shr_1, shr_2, shr_3, shr_4, shr_8, and_1, and_7, b_or64, decide_true, decide_false, Bool.or_true, Bool.or_false, Bool.not_true, Bool.not_false, Bool.not_not, b_shr32l, ↓DQ_pre, Int.natCast_nonneg, takeMap, bytesV_str, all_byteV, eq_self, decide_not, Nat.sub_zero, Int.sub_zero, Int.zero_add, Int.add_zero, takeDrop, takeAll, cast0, cast1, rep0, rep1, rep2, rep3, rep4, nth_gs, nth_gs0, set_gs, set_gs0, List.length_set, set_base, blk_setB, blk_setB0, blk_setN, blk_setN0, set_atH, set_atH0, blk_atH, blk_atH0, set_twice, slice_nil, slice_some, nil_eqP, nil_neP, ptT, Option.isNone_none, Option.isNone_some, or_true, true_or, or_false, false_or, ↓DQ_mt, u_2, ag_2, sz_2, by_2, ze_2, es_2, u_3, ag_3, sz_3, by_3, ze_3, es_3, u_4, ag_4, sz_4, by_4, ze_4, bo_4, es_4, u_5, ag_5, sz_5, by_5, ze_5, u8_5, es_5, u_6, ag_6, sz_6, by_6, ze_6, u8_6, es_6, u_8, f_8_0, f_8_1, f_8_2, f_8_3, ag_8, sz_8, by_8, ze_8, pl_8, es_8, u_9, ag_9, sz_9, by_9, ze_9, es_9, u_26, ag_26, sz_26, by_26, ze_26, es_26, u_53, ag_53, sz_53, by_53, ze_53, es_53, u_55, f_55_0, f_55_1, f_55_2, f_55_3, f_55_4, f_55_5, f_55_6, f_55_7, f_55_8, ag_55, sz_55, by_55, ze_55, pl_55, es_55, u_57, ag_57, sz_57, by_57, ze_57, es_57, ↓AW_loop, f5, f0, a.top, muxC, hb, ptrC, GW_u]
    exact ⟨a, Upd.refl _ _⟩
  · simp -dsimp -implicitDefEqProofs (disch := first | omega | (simp only [stT, ptT, u_2, ag_2, sz_2, by_2, ze_2, es_2, u_3, ag_3, sz_3, by_3, ze_3, es_3, u_4, ag_4, sz_4, by_4, ze_4, bo_4, es_4, u_5, ag_5, sz_5, by_5, ze_5, u8_5, es_5, u_6, ag_6, sz_6, by_6, ze_6, u8_6, es_6, u_8, f_8_0, f_8_1, f_8_2, f_8_3, ag_8, sz_8, by_8, ze_8, pl_8, es_8, u_9, ag_9, sz_9, by_9, ze_9, es_9, u_26, ag_26, sz_26, by_26, ze_26, es_26, u_53, ag_53, sz_53, by_53, ze_53, es_53, u_55, f_55_0, f_55_1, f_55_2, f_55_3, f_55_4, f_55_5, f_55_6, f_55_7, f_55_8, ag_55, sz_55, by_55, ze_55, pl_55, es_55, u_57, ag_57, sz_57, by_57, ze_57, es_57]; done) | (simp only [List.append_assoc, List.cons_append, List.nil_append, pre_n, pre_c, pre_a, pre_g, pre_r]; done) | (simp only [List.length_set]; done) | (simp only [List.length_set]; omega) | assumption | decide +kernel | fail) only [↓RWn, ↓RWc, ↓RWg', gsome, ↓PWn, ↓PWs, someP_s, someP_n, evA_tmp, evA_int, evA_str, evA_bool, evA_nilp, evA_nils, evA_nilf, evA_nili, evA_func, evL_n, evL_c, evP_n, evP_c, ↓CW_eq, ↓CB_bool, ↓GW_t, ↓GW_f, ↓OW_move, ↓OW_assign, ↓OW_pick, ↓OW_nilCheck, ↓OW_bin, ↓OW_un, ↓OW_makeFunc, ↓OW_fieldAddr, ↓OW_field, ↓OW_indexAddr, ↓OW_index, ↓OW_extract, ↓OW_build, ↓OW_len, ↓OW_min, ↓OW_max, ↓OW_load, ↓OW_store, ↓OW_alloc, ↓OW_box, ↓OW_convert, ↓OW_slice, ↓OW_buildSlice, ↓OW_makeSlice, ↓OW_call, ↓OW_append, b_add, b_sub, b_mul, b_quo, b_rem, b_and32, b_or32, b_xor32, b_and8, b_or8, b_xor8, ofInt32, b_eql, b_neq, b_lss, b_leq, b_gtr, b_geq, bb_eql, bb_neq, un_not, un_neg, un_xor32, isConstA, conv_int, conv_int2, ↓AW_skip, ↓AW_ret, ↓AW_exit, ↓AW_reg, ↓AW_cond, ↓AW_block, ↓tQn, ↓tQe, ↓tQr, ↓bQn, ↓bQe, ↓bQr, ↓rQn, ↓rQr, res_n, res_t, res_c, one1, one0, one2, fget_set, fget_cons0, fget_consS, Nat.reduceEqDiff, Nat.reduceLT, Nat.reduceAdd, Int.reduceNeg, Int.reduceLT, Int.reduceLE, Int.reduceToNat, Int.reduceEq, ↓reduceIte, Int.toNat_natCast, Nat.mul_one, Nat.zero_add, Nat.add_zero, and_self, true_and, and_true, ite_true, ite_false, decide_eq_true_eq, Bool.false_eq_true, List.toList_toArray, List.getElem?_toArray, List.getElem?_cons_zero, List.getElem?_cons_succ, Option.toList, List.nil_append, List.append_nil, List.cons_append, ↓AW_draw, ↓RWDn, ↓RWDc, ↓RWDg', ↓DQ_move, ↓DQ_assign, ↓DQ_pick, ↓DQ_nilCheck, ↓DQ_bin, ↓DQ_un, ↓DQ_makeFunc, ↓DQ_makeIface, ↓DQ_fieldAddr, ↓DQ_field, ↓DQ_indexAddr, ↓DQ_index, ↓DQ_extract, ↓DQ_build, ↓DQ_len, ↓DQ_min, ↓DQ_max, ↓DQ_load, ↓DQ_convert, ↓DQ_slice, ↓DQ_alloc, ↓DQ_box, ↓DQ_buildSlice, ↓DQ_makeSlice, ↓DQ_range, ↓AW_seq, sP_ite, sP_ite2, sP_map, sP_bind, nth_0, nth_S, nth_g, nth_g0, loadA_eq, loadK_1, loadK_n, storeA_eq, storeK_s, put_n, put_c, c_int, c_str, c_bool, c_ptr, c_sl, c_fn, c_nf, c_ni, c_agg, o_int, o_str, o_bool, o_ptr, o_sl, o_fn, o_nf, o_ni, all_n, all_c, all_a, build_s, fillL_n, fillL_c, bslice, mslice, app_nil, app_some, app_type, more_nil, more_some, more_str, takeA_eq, str_mk, str_size, str_data, str_app, ss_add, ss_eql, ss_neq, bd_nn, bd_ni, bd_in, bd_ii, slice_str, index_str, len_str, len_sl', cv_sb, idx_sl, slT, stT, part_1, part_n, List.append_assoc, List.length_append, List.length_cons, List.length_nil, List.set_cons_zero, List.set_cons_succ, List.getElem?_nil, List.size_toArray, Nat.reduceMul, Nat.reduceSub, Nat.reduceLeDiff, List.drop_zero, List.drop_succ_cons, List.take_succ_cons, List.take_zero, List.drop_nil, List.take_nil, Bool.and_true, Bool.true_and, Bool.and_self, not_true_eq_false, not_false_eq_true, ne_eq, Nat.le_refl, Option.isSome_some, List.length_replicate, List.length_map, Option.getD_some, wrap64, strOf_map, shl_1, shl_2, shl_3, shl_4, shl_8, shl_16, shl_24, shr_1, shr_2, shr_3, shr_4, shr_8, and_1, and_7, b_or64, decide_true, decide_false, Bool.or_true, Bool.or_false, Bool.not_true, Bool.not_false, Bool.not_not, b_shr32l, ↓DQ_pre, Int.natCast_nonneg, takeMap, bytesV_str, all_byteV, eq_self, decide_not, Nat.sub_zero, Int.sub_zero, Int.zero_add, Int.add_zero, takeDrop, takeAll, cast0, cast1, rep0, rep1, rep2, rep3, rep4, nth_gs, nth_gs0, set_gs, set_gs0, List.length_set, set_base, blk_setB, blk_setB0, blk_setN, blk_setN0, set_atH, set_atH0, blk_atH, blk_atH0, set_twice, slice_nil, slice_some, nil_eqP, nil_neP, ptT, Option.isNone_none, Option.isNone_some, or_true, true_or, or_false, false_or, ↓DQ_mt, u_2, ag_2, sz_2, by_2, ze_2, es_2, u_3, ag_3, sz_3, by_3, ze_3, es_3, u_4, ag_4, sz_4, by_4, ze_4, bo_4, es_4, u_5, ag_5, sz_5, by_5, ze_5, u8_5, es_5, u_6, ag_6, sz_6, by_6, ze_6, u8_6, es_6, u_8, f_8_0, f_8_1, f_8_2, f_8_3, ag_8, sz_8, by_8, ze_8, pl_8, es_8, u_9, ag_9, sz_9, by_9, ze_9, es_9, u_26, ag_26, sz_26, by_26, ze_26, es_26, u_53, ag_53, sz_53, by_53, ze_53, es_53, u_55, f_55_0, f_55_1, f_55_2, f_55_3, f_55_4, f_55_5, f_55_6, f_55_7, f_55_8, ag_55, sz_55, by_55, ze_55, pl_55, es_55, u_57, ag_57, sz_57, by_57, ze_57, es_57, ↓AW_loop] <;> rfl
end Go.Abs
