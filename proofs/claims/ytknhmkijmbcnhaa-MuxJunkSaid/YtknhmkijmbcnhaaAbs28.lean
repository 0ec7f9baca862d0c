/- Abs28: blocks of the base that are written; what else stays. Conditions: none. -/
import Derived.Test.YtknhmkijmbcnhaaAbs27
set_option linter.unusedSimpArgs false
set_option maxRecDepth 100000
set_option linter.unusedVariables false
namespace Go.Abs
section
variable {h H X : AHeap} {p q i : Nat} {v w : Option AObj} {k : Blk}
theorem set_base (hp : p < h.length) : (h ++ X).set p v = h.set p v ++ X := List.set_append_left _ _ hp
theorem blk_setB (hp : p < h.length) : blkA (h.set p (some (.cells k)) ++ X) p = some k := by
  unfold blkA; rw [List.getElem?_append_left (by rw [List.length_set]; exact hp), List.getElem?_set_self hp]
theorem blk_setB0 (hp : p < h.length) : blkA (h.set p (some (.cells k))) p = some k := by
  unfold blkA; rw [List.getElem?_set_self hp]
theorem blk_setN (hn : q ≠ p) : blkA (h.set p v ++ X) q = blkA (h ++ X) q := by
  unfold blkA
  by_cases hq : q < h.length
  · rw [List.getElem?_append_left (by rw [List.length_set]; exact hq), List.getElem?_append_left hq, List.getElem?_set_ne (fun h => hn h.symm)]
  · rw [List.getElem?_append_right (by rw [List.length_set]; omega), List.getElem?_append_right (by omega), List.length_set]
theorem blk_setN0 (hn : q ≠ p) : blkA (h.set p v) q = blkA h q := by
  unfold blkA; rw [List.getElem?_set_ne (fun h => hn h.symm)]
theorem set_atH (hl : H.length = h.length) : (H ++ X).set (h.length + i) v = H ++ X.set i v := by rw [← hl]; exact set_at
theorem set_atH0 (hl : H.length = h.length) : (H ++ X).set h.length v = H ++ X.set 0 v := by rw [← hl]; exact set_at0
theorem blk_atH (hl : H.length = h.length) : blkA (H ++ X) (h.length + i) = nth X i := by rw [← hl]; exact blkA_at
theorem blk_atH0 (hl : H.length = h.length) : blkA (H ++ X) h.length = nth X 0 := by rw [← hl]; exact blkA_at0
theorem set_twice : (h.set p v).set p w = h.set p w := List.set_set ..
end
section
variable {P : Program} {h : AHeap} {t : TypeId} {b o n m : Nat} {lo hi : Option Value} {K : Value → Prop}
theorem slice_nil : someP (sliceA P t (.slice none 0 0) lo hi h) K = someP (sliceT (P.underlying t)) fun e => someP (sizeA P e) fun _ => someP (boundsA 0 lo hi) fun _ => K (.slice none 0 0) := by
  unfold sliceA
  cases P.underlying t with
  | none => simp [someP_n, sliceT]
  | some d =>
    cases d with
    | slice e =>
      simp only [sliceT, someP_s]
      cases sizeA P e <;> cases boundsA 0 lo hi <;> simp [someP_n, someP_s]
    | _ => simp [someP_n, sliceT]
theorem slice_some : someP (sliceA P t (.slice (some ⟨b, o, none⟩) n m) lo hi h) K = someP (sliceT (P.underlying t)) fun e => someP (boundsA n lo hi) fun p => someP (sizeA P e) fun size => someP (blkA h b) fun k => k.esz = size ∧ K (.slice (some ⟨b, o + p.1 * size, none⟩) (p.2 - p.1) (p.2 - p.1)) := by
  unfold sliceA
  cases P.underlying t with
  | none => simp [someP_n, sliceT]
  | some d =>
    cases d with
    | slice e =>
      simp only [sliceT, someP_s]
      cases boundsA n lo hi with
      | none => simp [someP_n]
      | some p =>
        cases sizeA P e with
        | none => simp [someP_n, someP_s]
        | some size =>
          cases blkA h b with
          | none => simp [someP_n, someP_s]
          | some k => simp [someP_s, sP_ite]
    | _ => simp [someP_n, sliceT]
end
/-! ### regions that draw their order -/
def flexS (ops : Array Oper) (k : Nat) : Option (List (TypeId × Operand)) :=
  ((List.range ops.size).filter fun j => !(j == k || pureAt ops j || (if j < k then ((ancA ops.toList []).getD k []).contains j else ((ancA ops.toList []).getD j []).contains k))).mapM fun j =>
    if (decide (j < k) && looksFree ops j k) = true then match ops[j]? with
      | some o => match o.op with
        | .load t x => some (t, x)
        | _ => none
      | none => none
    else none
theorem mapM_mem {α β : Type} {f : α → Option β} : ∀ {l : List α} {r : List β}, l.mapM f = some r → ∀ x, x ∈ l → ∃ y, f x = some y ∧ y ∈ r
  | [], _, _, x, hx => by simp at hx
  | a :: l, r, h, x, hx => by
    simp only [List.mapM_cons] at h
    cases ha : f a with
    | none => simp [ha] at h
    | some b =>
      cases hl : l.mapM f with
      | none => simp [ha, hl] at h
      | some s =>
        simp [ha, hl] at h
        subst h
        rcases List.mem_cons.1 hx with rfl | hx
        · exact ⟨b, ha, by simp⟩
        · obtain ⟨y, h1, h2⟩ := mapM_mem hl x hx
          exact ⟨y, h1, by simp [h2]⟩
section
variable {c : Ctx} {ops : Array Oper} {k : Nat} {fr : AFrame} {h h' : AHeap} {op : Op} {p : Prop}
theorem flex_of {L : List (TypeId × Operand)} (hs : flexS ops k = some L) (hL : ∀ tx, tx ∈ L → ∃ a, evA c fr tx.2 = some a ∧ loadA c.P h tx.1 a = loadA c.P h' tx.1 a) : flexA c ops (ancA ops.toList []) k fr h h' = true := by
  refine List.all_eq_true.2 fun j hj => ?_
  by_cases hb : (j == k || pureAt ops j || (if j < k then ((ancA ops.toList []).getD k []).contains j else ((ancA ops.toList []).getD j []).contains k)) = true
  · rw [hb]; rfl
  · obtain ⟨tx, h1, h2⟩ := mapM_mem hs j (List.mem_filter.2 ⟨hj, by rw [Bool.not_eq_true] at hb; rw [hb]; rfl⟩)
    obtain ⟨a, h3, h4⟩ := hL tx h2
    split at h1
    · rename_i hc
      simp only [Bool.and_eq_true] at hc
      split at h1
      · rename_i o ho
        split at h1
        · rename_i t x hop
          cases h1
          simp only at h3 h4
          simp only [hc.1, hc.2, Bool.true_and, ho, hop, h3, h4, decide_true, Bool.or_true]
        · cases h1
      · cases h1
    · cases h1
theorem DQ_mt (hm : mutA ops (ancA ops.toList []) k = true) : DQ op (mtF c ops k fr h h') h h' p = p := DQ_m (by unfold mtF; rw [hm]; rfl)
theorem DQ_fx {L : List (TypeId × Operand)} (hs : flexS ops k = some L) (hL : ∀ tx, tx ∈ L → ∃ a, evA c fr tx.2 = some a ∧ loadA c.P h tx.1 a = loadA c.P h' tx.1 a) (hp : p) : DQ op (mtF c ops k fr h h') h h' p := by
  rw [DQ_m]
  · exact hp
  · unfold mtF; rw [flex_of hs hL, Bool.or_true]
theorem DQ_fx1 {t : TypeId} {u : Tmp} {v : Value} (hs : flexS ops k = some [(t, .tmp u)]) (hv : fget fr u = v) (hl : loadA c.P h t v = loadA c.P h' t v) (hp : p) : DQ op (mtF c ops k fr h h') h h' p :=
  DQ_fx hs (fun tx htx => by rw [List.mem_singleton] at htx; subst htx; exact ⟨v, congrArg some hv, hl⟩) hp
end
/-! ### nil -/
def ptrT : Option TypeDesc → Bool
  | some (.pointer _) => true
  | _ => false
theorem ptT {e : TypeId} : ptrT (some (.pointer e)) = true := rfl
section
variable {P : Program} {t : TypeId} {cx : Bool} {a : Option Addr} {n m : Nat}
theorem nil_eqP (ht : ptrT (P.underlying t) = true) : binA P .eql t cx true (.pointer a) (.pointer none) = some (.bool a.isNone) := by
  cases hu : P.underlying t with
  | none => rw [hu] at ht; simp [ptrT] at ht
  | some d =>
    cases d <;> rw [hu] at ht <;> simp [ptrT] at ht
    cases a <;> simp [binA, eqNilA, nilType, hu, nilA]
theorem nil_neP (ht : ptrT (P.underlying t) = true) : binA P .neq t cx true (.pointer a) (.pointer none) = some (.bool (!a.isNone)) := by
  cases hu : P.underlying t with
  | none => rw [hu] at ht; simp [ptrT] at ht
  | some d =>
    cases d <;> rw [hu] at ht <;> simp [ptrT] at ht
    cases a <;> simp [binA, eqNilA, nilType, hu, nilA]
theorem nil_eqS {e : TypeId} (ht : sliceT (P.underlying t) = some e) : binA P .eql t cx true (.slice a n m) (.slice none 0 0) = some (.bool a.isNone) := by
  cases hu : P.underlying t with
  | none => rw [hu] at ht; simp [sliceT] at ht
  | some d =>
    cases d <;> rw [hu] at ht <;> simp [sliceT] at ht
    cases a <;> simp [binA, eqNilA, nilType, hu, nilA]
theorem nil_neS {e : TypeId} (ht : sliceT (P.underlying t) = some e) : binA P .neq t cx true (.slice a n m) (.slice none 0 0) = some (.bool (!a.isNone)) := by
  cases hu : P.underlying t with
  | none => rw [hu] at ht; simp [sliceT] at ht
  | some d =>
    cases d <;> rw [hu] at ht <;> simp [sliceT] at ht
    cases a <;> simp [binA, eqNilA, nilType, hu, nilA]
end
/-- A heap behind another: blocks outside F stand as they were; the blocks of F' are of F or new. -/
structure Upd (h h' : AHeap) (F F' : List Nat) : Prop where
  len : h.length ≤ h'.length
  same : ∀ q, q < h.length → q ∉ F → h'[q]? = h[q]?
  own : ∀ q, q ∈ F' → q ∈ F ∨ h.length ≤ q
theorem Upd.refl (h : AHeap) (F : List Nat) : Upd h h F F := ⟨Nat.le_refl _, fun _ _ _ => rfl, fun _ hq => .inl hq⟩
theorem Upd.trans {a b c : AHeap} {F G K : List Nat} (x : Upd a b F G) (y : Upd b c G K) : Upd a c F K := by
  refine ⟨Nat.le_trans x.len y.len, fun q hq hn => ?_, fun q hq => ?_⟩
  · rw [y.same q (Nat.lt_of_lt_of_le hq x.len) (fun hg => ?_), x.same q hq hn]
    rcases x.own q hg with h | h
    · exact hn h
    · omega
  · rcases y.own q hq with h | h
    · exact x.own q h
    · exact .inr (Nat.le_trans x.len h)
theorem Upd.blk {h h' : AHeap} {F F' : List Nat} (u : Upd h h' F F') {q : Nat} {k : Blk} (hq : q ∉ F) (hb : blkA h q = some k) : blkA h' q = some k := by
  have hl := blkA_lt hb
  unfold blkA at hb ⊢
  rw [u.same q hl hq]; exact hb
theorem Upd.ext {h h' : AHeap} (F : List Nat) (e : Ext h h') : Upd h h' F F := ⟨e.len, fun q hq _ => e.get hq, fun _ hq => .inl hq⟩
theorem Upd.app (h g : AHeap) (F : List Nat) : Upd h (h ++ g) F F := Upd.ext F (.app h g)
theorem Upd.set {h h' : AHeap} {F F' : List Nat} (u : Upd h h' F F') {b : Nat} {v : Option AObj} (hb : b ∈ F) : Upd h (h'.set b v) F F' :=
  ⟨by rw [List.length_set]; exact u.len, fun q hq hn => by
    have hne : b ≠ q := (fun e => by subst e; exact hn hb)
    rw [List.getElem?_set_ne hne]; exact u.same q hq hn, u.own⟩
theorem Upd.setNew {h h' : AHeap} {F F' : List Nat} (u : Upd h h' F F') {b : Nat} {v : Option AObj} (hb : h.length ≤ b) : Upd h (h'.set b v) F F' :=
  ⟨by rw [List.length_set]; exact u.len, fun q hq hn => by
    have hne : b ≠ q := by omega
    rw [List.getElem?_set_ne hne]; exact u.same q hq hn, u.own⟩
theorem Upd.more {h h' : AHeap} {F F' : List Nat} (u : Upd h h' F F') (g : AHeap) : Upd h (h' ++ g) F F' :=
  ⟨by rw [List.length_append]; exact Nat.le_trans u.len (Nat.le_add_right _ _), fun q hq hn => by rw [List.getElem?_append_left (Nat.lt_of_lt_of_le hq u.len)]; exact u.same q hq hn, u.own⟩
theorem Upd.to {h h' : AHeap} {F F' G : List Nat} (u : Upd h h' F F') (hg : ∀ q, q ∈ G → q ∈ F ∨ h.length ≤ q) : Upd h h' F G := ⟨u.len, u.same, hg⟩
theorem Upd.from {h h' : AHeap} {F F' G : List Nat} (u : Upd h h' F F') (hg : ∀ q, q ∈ F → q ∈ G) : Upd h h' G F' := ⟨u.len, fun q hq hn => u.same q hq (fun hf => hn (hg q hf)), fun q hq => (u.own q hq).imp (hg q) id⟩
end Go.Abs
