/- Pc8: the checksum tells any one changed byte; a record with one changed byte is not read. Conditions: none. -/
import Derived.Test.YtgbhhkcppmikcaaPc7
set_option linter.unusedVariables false
set_option linter.unusedSimpArgs false
set_option maxRecDepth 100000
namespace Go.Abs
theorem tops : ((List.range 256).map fun i => (row i).toNat / 16777216).Nodup := by decide +kernel
theorem tops_inj {i j : Nat} (hi : i < 256) (hj : j < 256) (h : (row i).toNat / 16777216 = (row j).toNat / 16777216) : i = j := by
  have h1 := List.pairwise_iff_getElem.1 tops
  have hl : ((List.range 256).map fun i => (row i).toNat / 16777216).length = 256 := by rw [List.length_map, List.length_range]
  rcases Nat.lt_trichotomy i j with hlt | he | hlt
  · have := h1 i j (by rw [hl]; exact hi) (by rw [hl]; exact hj) hlt
    rw [List.getElem_map, List.getElem_map, List.getElem_range, List.getElem_range] at this
    exact absurd h this
  · exact he
  · have := h1 j i (by rw [hl]; exact hj) (by rw [hl]; exact hi) hlt
    rw [List.getElem_map, List.getElem_map, List.getElem_range, List.getElem_range] at this
    exact absurd h.symm this
theorem step_top (c : BitVec 32) (b : UInt8) : (crcStep c b).toNat / 16777216 = (row ((c.setWidth 8 ^^^ b.toBitVec).toNat)).toNat / 16777216 := by
  unfold crcStep
  generalize row _ = r
  have e : ((c >>> 8) ^^^ r) >>> 24 = r >>> 24 := by
    rw [BitVec.ushiftRight_xor_distrib]
    have : (c >>> 8) >>> 24 = 0#32 := by
      apply BitVec.eq_of_toNat_eq
      simp only [BitVec.toNat_ushiftRight, Nat.shiftRight_eq_div_pow, BitVec.toNat_ofNat]
      have := c.isLt
      omega
    rw [this, BitVec.zero_xor]
  have e2 := congrArg BitVec.toNat e
  simpa [BitVec.toNat_ushiftRight, Nat.shiftRight_eq_div_pow] using e2
theorem step_idx {c c' : BitVec 32} {b b' : UInt8} (h : crcStep c b = crcStep c' b') : c.setWidth 8 ^^^ b.toBitVec = c'.setWidth 8 ^^^ b'.toBitVec ∧ c >>> 8 = c' >>> 8 := by
  have h1 := congrArg (fun x => x.toNat / 16777216) h
  simp only [step_top] at h1
  have h2 := tops_inj (BitVec.isLt _) (BitVec.isLt _) h1
  have h3 := BitVec.eq_of_toNat_eq h2
  refine ⟨h3, ?_⟩
  unfold crcStep at h
  rw [h3] at h
  have := congrArg (fun x => x ^^^ row ((c'.setWidth 8 ^^^ b'.toBitVec).toNat)) h
  simpa [BitVec.xor_assoc] using this
theorem step_inj {c c' : BitVec 32} {b : UInt8} (h : crcStep c b = crcStep c' b) : c = c' := by
  obtain ⟨h1, h2⟩ := step_idx h
  have h3 : c.setWidth 8 = c'.setWidth 8 := by
    have := congrArg (fun x => x ^^^ b.toBitVec) h1
    simpa [BitVec.xor_assoc] using this
  apply BitVec.eq_of_toNat_eq
  have e1 := congrArg BitVec.toNat h2
  have e2 := congrArg BitVec.toNat h3
  simp only [BitVec.toNat_ushiftRight, Nat.shiftRight_eq_div_pow, BitVec.toNat_setWidth] at e1 e2
  omega
theorem fold_inj : ∀ (l : List UInt8) (c c' : BitVec 32), crcFold c l = crcFold c' l → c = c'
  | [], _, _, h => h
  | _ :: l, _, _, h => step_inj (fold_inj l _ _ h)
theorem fold_app (c : BitVec 32) (a b : List UInt8) : crcFold c (a ++ b) = crcFold (crcFold c a) b := List.foldl_append
theorem crc_one (p q : List UInt8) (b b' : UInt8) (h : crcSum (p ++ b :: q) = crcSum (p ++ b' :: q)) : b = b' := by
  unfold crcSum at h
  rw [fold_app, fold_app] at h
  have h1 : crcFold (crcFold (BitVec.allOnes 32) p) (b :: q) = crcFold (crcFold (BitVec.allOnes 32) p) (b' :: q) := by
    have := congrArg (fun x => ~~~ x) h
    simpa using this
  have h2 := fold_inj q _ _ (show crcFold (crcStep (crcFold (BitVec.allOnes 32) p) b) q = crcFold (crcStep (crcFold (BitVec.allOnes 32) p) b') q from h1)
  obtain ⟨h3, _⟩ := step_idx h2
  have h4 : b.toBitVec = b'.toBitVec := by
    have := congrArg (fun x => (crcFold (BitVec.allOnes 32) p).setWidth 8 ^^^ x) h3
    simpa [← BitVec.xor_assoc] using this
  exact UInt8.toBitVec_inj.1 h4
theorem crc_set (l : List UInt8) (i : Nat) (v : UInt8) (hi : i < l.length) (hv : l[i] ≠ v) : crcSum l ≠ crcSum (l.set i v) := by
  intro h
  have e1 : l = l.take i ++ l[i] :: l.drop (i + 1) := by rw [← List.drop_eq_getElem_cons hi, List.take_append_drop]
  have e2 : l.set i v = l.take i ++ v :: l.drop (i + 1) := by rw [List.set_eq_take_append_cons_drop, if_pos hi]
  rw [e2] at h
  conv at h => lhs; rw [e1]
  exact hv (crc_one _ _ _ _ h)
theorem be_inj {a b k : Nat} (ha : a < 256 ^ k) (hb : b < 256 ^ k) (h : be a k = be b k) : a = b := by
  have := congrArg val h
  rwa [val_be, val_be, Nat.mod_eq_of_lt ha, Nat.mod_eq_of_lt hb] at this
/-- A record with one changed byte, not of its length, is not read. -/
theorem next_spoilt {x : Seen} {last : Nat} (hx : x.fine) (i : Nat) (v : UInt8) (hi : i < (recS x last).length) (h6 : i ≠ 6) (h7 : i ≠ 7) (hv : (recS x last)[i] ≠ v) (r : List UInt8) : nextS ((recS x last).set i v ++ r) last = none := by
  have hlen := recS_len x last
  have hn : val ((((recS x last).set i v ++ r).drop 6).take 2) = x.bytes.length := by
    have hp := (parts (last := last) hx (be (crcSum (front x last)).toNat 4)).2.2.1
    have e : front x last ++ be (crcSum (front x last)).toNat 4 = recS x last := rfl
    rw [e] at hp
    rw [← hp]
    congr 1
    apply List.ext_getElem?
    intro j
    rw [List.getElem?_take, List.getElem?_take]
    split
    · rw [List.getElem?_drop, List.getElem?_drop, List.getElem?_append_left (by rw [List.length_set, hlen]; omega), List.getElem?_set_ne (by omega)]
    · rfl
  have htl : ((recS x last).set i v ++ r).length = 12 + x.bytes.length + r.length := by rw [List.length_append, List.length_set, hlen]
  have htk : ((recS x last).set i v ++ r).take (12 + x.bytes.length) = (recS x last).set i v := by
    rw [List.take_append_of_le_length (by rw [List.length_set, hlen]; exact Nat.le_refl _), List.take_of_length_le (by rw [List.length_set, hlen]; exact Nat.le_refl _)]
  have h2000 := hx.2.2.2
  unfold nextS
  rw [if_neg (by omega)]
  simp only [hn]
  rw [if_neg (by omega)]
  generalize hx' : (⟨_, _, _, _, _⟩ : Seen) = x'
  rw [if_pos]
  refine .inr (.inr ?_)
  rw [htk]
  intro heq
  have hb' : x'.bytes.length = x.bytes.length := by
    have h1 := congrArg List.length heq
    rw [recS_len, List.length_set, hlen] at h1
    omega
  have hfl := front_len x last
  have hfl' := front_len x' last
  -- the fronts
  have hf : front x' last = ((recS x last).set i v).take (8 + x.bytes.length) := by
    rw [← heq, recS, List.take_append_of_le_length (by omega), List.take_of_length_le (by omega)]
  have hc : be (crcSum (front x' last)).toNat 4 = ((recS x last).set i v).drop (8 + x.bytes.length) := by
    rw [← heq, recS, List.drop_append, List.drop_of_length_le (by omega), hfl', hb', Nat.sub_self]; rfl
  by_cases hii : i < 8 + x.bytes.length
  · have hf2 : front x' last = (front x last).set i v := by
      rw [hf, recS, List.set_append_left _ _ (by omega), List.take_append_of_le_length (by rw [List.length_set]; omega), List.take_of_length_le (by rw [List.length_set]; omega)]
    have hc2 : be (crcSum (front x' last)).toNat 4 = be (crcSum (front x last)).toNat 4 := by
      rw [hc, recS, List.set_append_left _ _ (by omega), List.drop_append, List.drop_of_length_le (by rw [List.length_set]; omega), List.length_set, hfl, Nat.sub_self]; rfl
    have hcc := BitVec.eq_of_toNat_eq (be_inj (BitVec.isLt _) (BitVec.isLt _) hc2)
    rw [hf2] at hcc
    have hgi : (front x last)[i]'(by omega) ≠ v := by
      have : (recS x last)[i] = (front x last)[i]'(by omega) := List.getElem_append_left _
      rwa [← this]
    exact crc_set (front x last) i v (by omega) hgi hcc.symm
  · have hf2 : front x' last = front x last := by
      rw [hf, recS, List.set_append_right _ _ (by omega), List.take_append_of_le_length (by omega), List.take_of_length_le (by omega)]
    have : recS x' last = recS x last := by unfold recS; rw [hf2]
    rw [this] at heq
    have h1 : (recS x last)[i]? = ((recS x last).set i v)[i]? := by rw [← heq]
    rw [List.getElem?_set_self hi, List.getElem?_eq_getElem hi] at h1
    exact hv (Option.some.inj h1)
end Go.Abs
