/- Abs24: the abstract heap: what grows, what a block holds after each step. Conditions: none. -/
import Derived.Test.YtknhmkijmbcnhaaAbs23
set_option linter.unusedVariables false
set_option linter.unusedSimpArgs false
namespace Go.Abs
/-- A heap that begins with another. -/
def Ext (h h' : AHeap) : Prop := ∃ g, h' = h ++ g
theorem Ext.refl (h : AHeap) : Ext h h := ⟨[], by simp⟩
theorem Ext.trans {a b c : AHeap} (x : Ext a b) (y : Ext b c) : Ext a c := by
  obtain ⟨g, rfl⟩ := x; obtain ⟨g', rfl⟩ := y; exact ⟨g ++ g', by simp⟩
theorem Ext.app (h g : AHeap) : Ext h (h ++ g) := ⟨g, rfl⟩
theorem Ext.app' {a h : AHeap} (g : AHeap) (x : Ext a h) : Ext a (h ++ g) := x.trans (.app h g)
theorem Ext.len {a b : AHeap} (x : Ext a b) : a.length ≤ b.length := by obtain ⟨g, rfl⟩ := x; simp
theorem Ext.set {a h : AHeap} (x : Ext a h) {b : Nat} (hb : a.length ≤ b) (v : Option AObj) : Ext a (h.set b v) := by
  obtain ⟨g, rfl⟩ := x
  exact ⟨g.set (b - a.length) v, by rw [List.set_append_right _ _ hb]⟩
theorem Ext.get {a h : AHeap} (x : Ext a h) {b : Nat} (hb : b < a.length) : h[b]? = a[b]? := by
  obtain ⟨g, rfl⟩ := x
  rw [List.getElem?_append_left hb]
theorem blkA_lt {h : AHeap} {b : Nat} {k : Blk} (hb : blkA h b = some k) : b < h.length := by
  unfold blkA at hb
  split at hb
  · rename_i hg; exact (List.getElem?_eq_some_iff.1 hg).1
  · cases hb
theorem Ext.blk {a h : AHeap} (x : Ext a h) {b : Nat} {k : Blk} (hb : blkA a b = some k) : blkA h b = some k := by
  have hl := blkA_lt hb
  unfold blkA at hb ⊢
  rw [x.get hl]
  exact hb
theorem blkA_app {h : AHeap} {b : Nat} {k : Blk} (g : AHeap) (hb : blkA h b = some k) : blkA (h ++ g) b = some k := (Ext.app h g).blk hb
theorem blkA_new (h : AHeap) (k : Blk) : blkA (h ++ [some (.cells k)]) h.length = some k := by
  unfold blkA; simp
theorem blkA_set {h : AHeap} {b : Nat} {k k' : Blk} (hb : blkA h b = some k) : blkA (h.set b (some (.cells k'))) b = some k' := by
  unfold blkA; rw [List.getElem?_set_self (blkA_lt hb)]
theorem blkA_set_ne {h : AHeap} {b b' : Nat} (v : Option AObj) (hn : b ≠ b') : blkA (h.set b v) b' = blkA h b' := by
  unfold blkA; rw [List.getElem?_set_ne hn]
/-- After the block b is gone and a new one made. -/
theorem blkA_moved (h : AHeap) (b : Nat) (v : Option AObj) (k : Blk) : blkA (h.set b v ++ [some (.cells k)]) h.length = some k := by
  have := blkA_new (h.set b v) k
  rwa [List.length_set] at this
theorem putCells_len : ∀ (vs l : List Value) (o : Nat), (putCells l o vs).length = l.length
  | [], l, o => rfl
  | v :: vs, l, o => by simp only [putCells]; rw [putCells_len vs]; simp
theorem putCells_eq : ∀ (vs l : List Value) (o : Nat), o + vs.length ≤ l.length → putCells l o vs = l.take o ++ vs ++ l.drop (o + vs.length)
  | [], l, o, ho => by simp [putCells]
  | v :: vs, l, o, ho => by
    simp only [List.length_cons] at ho
    have ho2 : o < l.length := by omega
    simp only [putCells]
    rw [putCells_eq vs (l.set o v) (o + 1) (by rw [List.length_set]; omega)]
    have e1 : (l.set o v).take (o + 1) = l.take o ++ [v] := by
      rw [List.take_set, List.take_succ_eq_append_getElem ho2]
      have hlen : (l.take o).length = o := by rw [List.length_take]; omega
      rw [List.set_append_right _ _ (by omega), hlen]
      simp
    have e2 : (l.set o v).drop (o + 1 + vs.length) = l.drop (o + (vs.length + 1)) := by
      rw [List.drop_set_of_lt (by omega)]
      congr 1; omega
    rw [e1, e2]
    simp [List.append_assoc]
theorem putCells_all (vs l : List Value) (hl : vs.length = l.length) : putCells l 0 vs = vs := by
  rw [putCells_eq vs l 0 (by omega)]
  simp [hl]
section
variable {P : Program} {h : AHeap} {t : TypeId} {b o : Nat} {k : Blk} {v : Value}
theorem store1 (hs : sizeA P t = some 1) (hv : v.cells = #[v]) (h1 : oneCellA v = true) (hb : blkA h b = some k) (hro : k.ro = false) (ho : o < k.cells.length) :
    storeA P h t (.pointer (some ⟨b, o, none⟩)) v = some (h.set b (some (.cells ⟨k.cells.set o v, k.esz, k.ro⟩))) := by
  simp only [storeA, hs, hv, writeA, hb, hro, putCells, List.size_toArray, List.length_cons, List.length_nil, if_true, List.all_cons, List.all_nil, Bool.and_true, h1]
  rw [if_pos ⟨trivial, by omega, trivial⟩]
theorem storeN {cs : List Value} (hs : sizeA P t = some cs.length) (h1 : cs.all oneCellA = true) (hb : blkA h b = some k) (hro : k.ro = false) (ho : o + cs.length ≤ k.cells.length) :
    storeA P h t (.pointer (some ⟨b, o, none⟩)) (.agg cs.toArray) = some (h.set b (some (.cells ⟨putCells k.cells o cs, k.esz, k.ro⟩))) := by
  have hc : (Value.agg cs.toArray).cells = cs.toArray := rfl
  simp only [storeA, hs, hc, writeA, hb, hro, List.size_toArray, if_true]
  rw [if_pos ⟨trivial, ho, h1⟩]
theorem load1 (ha : isAggA P t = some false) (hs : sizeA P t = some 1) (hb : blkA h b = some k) (ho : k.cells[o]? = some v) : loadA P h t (.pointer (some ⟨b, o, none⟩)) = some v := by
  simp only [loadA, hb, ha, hs, ho]
theorem loadN {n : Nat} (ha : isAggA P t = some true) (hs : sizeA P t = some n) (hb : blkA h b = some k) (ho : o + n ≤ k.cells.length) : loadA P h t (.pointer (some ⟨b, o, none⟩)) = some (.agg ((k.cells.drop o).take n).toArray) := by
  simp only [loadA, hb, ha, hs, takeA, ho, if_true, Option.map_some]
end
theorem repCells1 (v : Value) : ∀ n, repCells [v] n = List.replicate n v
  | 0 => rfl
  | n + 1 => by simp only [repCells, repCells1 v n]; rfl
theorem mkSl {P : Program} {h : AHeap} {t e : TypeId} {z : List Value} {sz by_ n m : Nat} {q q' : IntKind} (hu : P.underlying t = some (.slice e)) (hs : sizeA P e = some sz) (hz : zeroA P e = some z) (hb : bytesA P e = some by_) (hl : z.length = sz) (h0 : 0 < sz) (hn : n ≤ m) (hm : m * by_ ≤ 281474976710656) (hm2 : m ≤ 9223372036854775807) :
    makeSliceA P t (.int q n) (.int q' m) h = some (.slice (some ⟨h.length, 0, none⟩) n n, h ++ [some (.cells ⟨repCells z n, sz, false⟩)]) := by
  simp only [makeSliceA, hu, hs, hz, hb]
  have e : (m : Int) * (by_ : Int) = ((m * by_ : Nat) : Int) := (Int.natCast_mul m by_).symm
  rw [if_pos ⟨by omega, by omega, by rw [e]; omega, by omega, hl, h0⟩]
  rw [Int.toNat_natCast]
  rfl
theorem sliceCells_some {h : AHeap} {b o n m sz : Nat} {k : Blk} (hb : blkA h b = some k) (hn : o + n * sz ≤ k.cells.length) : sliceCells h sz (.slice (some ⟨b, o, none⟩) n m) = some ((k.cells.drop o).take (n * sz)) := by
  simp only [sliceCells, hb, takeA, hn, if_true]
def byteV (b : UInt8) : Value := .int .u8 b.toNat
theorem strOf_map (l : List UInt8) : strOf (l.map byteV) = some l := by
  induction l with
  | nil => rfl
  | cons b l ih => simp [strOf, byteV, ih]
theorem bytesV_map (s : ByteArray) : bytesV s = s.data.toList.map byteV := rfl
/-- A slice of bytes, as a string. -/
theorem convStr {P : Program} {h : AHeap} {t u e : TypeId} {b o n m : Nat} {k : Blk} {l : List UInt8} (ht : P.underlying t = some (.slice e)) (hu : P.underlying u = some .string) (he : isU8 P e = true) (hb : blkA h b = some k) (hn : o + n ≤ k.cells.length) (hl : (k.cells.drop o).take n = l.map byteV) :
    convA P t u (.slice (some ⟨b, o, none⟩) n m) h = some (.string ⟨l.toArray⟩, h) := by
  simp only [convA, ht, hu, he, if_true]
  rw [sliceCells_some hb (by omega)]
  rw [Nat.mul_one, hl]
  simp only [Option.bind_some, strOf_map]
/-- A string, as a new slice of bytes. -/
theorem convBytes {P : Program} {h : AHeap} {t u e : TypeId} {s : ByteArray} (ht : P.underlying t = some .string) (hu : P.underlying u = some (.slice e)) (he : isU8 P e = true) (hs : sizeA P e = some 1) :
    convA P t u (.string s) h = some (.slice (some ⟨h.length, 0, none⟩) s.size s.size, h ++ [some (.cells ⟨s.data.toList.map byteV, 1, false⟩)]) := by
  simp only [convA, ht, hu, he, hs, newA, and_self, if_true]
  rfl
theorem Ext.take {h h' : AHeap} (e : Ext h h') : h'.take h.length = h := by obtain ⟨g, rfl⟩ := e; simp
theorem DQ_call {op : Op} {h h' : AHeap} {m : Bool} {p : Prop} (e : Ext h h') : DQ op m h h' p = p := by simp [DQ, e.take]
/-- Behind a call whose value is known and which left all blocks as they were. -/
def Quiet (c : Ctx) (f : FuncId) (args : List Value) (h : AHeap) (w : Value) : Prop := FW c f args h fun v h' => v = w ∧ Ext h h'
theorem Quiet.use {c : Ctx} {f : FuncId} {args : List Value} {h : AHeap} {w : Value} (hq : Quiet c f args h w) {K : Value → AHeap → Prop} (hk : ∀ h', Ext h h' → K w h') : FW c f args h K := by
  refine FW.mono hq fun v h' hh => ?_
  obtain ⟨rfl, he⟩ := hh
  exact hk h' he
theorem LW_unfold {c : Ctx} {n : Nat} {a : Code} {Q : AExit → AFrame → AHeap → Prop} {fr : AFrame} {h : AHeap} (hw : AW c n a (thenQ (LW c n a Q) Q) fr h) : LW c n a Q fr h := by
  obtain ⟨x, fr', h', he, hQ⟩ := AW_sound _ _ _ _ hw
  cases x with
  | normal => obtain ⟨x2, fr2, h2, he2, hQ2⟩ := hQ; exact ⟨x2, fr2, h2, loopU_next he he2, hQ2⟩
  | exit i => exact ⟨_, _, _, loopU_out he (by simp), hQ⟩
  | ret => exact ⟨_, _, _, loopU_out he (by simp), hQ⟩
end Go.Abs
