/- Abs26: rules to run straight code at once: the heap as a base and what was laid on it, strings as lists of bytes, calls that leave all blocks as they were. Conditions: none. -/
import Derived.Test.YtknhmkijmbcnhaaAbs25
set_option linter.unusedVariables false
set_option linter.unusedSimpArgs false
set_option maxRecDepth 100000
namespace Go.Abs
theorem sP_ite {α : Type} {p : Prop} [Decidable p] {v : α} {K : α → Prop} : someP (if p then some v else none) K = (p ∧ K v) := by
  split
  · rename_i h; simp [someP_s, h]
  · rename_i h; simp [someP_n, h]
theorem sP_ite2 {α : Type} {p : Prop} [Decidable p] {v : α} {K : α → Prop} : someP (if p then none else some v) K = (¬ p ∧ K v) := by
  split
  · rename_i h; simp [someP_n, h]
  · rename_i h; simp [someP_s, h]
theorem sP_map {α β : Type} {x : Option α} {f : α → β} {K : β → Prop} : someP (x.map f) K = someP x fun a => K (f a) := propext someP_map
theorem sP_bind {α β : Type} {x : Option α} {f : α → Option β} {K : β → Prop} : someP (x.bind f) K = someP x fun a => someP (f a) K := by
  cases x <;> simp [someP_n, someP_s]
/-! ### the heap as a base and what lies on it -/
def nth : AHeap → Nat → Option Blk
  | [], _ => none
  | some (.cells k) :: _, 0 => some k
  | _ :: _, 0 => none
  | _ :: l, n + 1 => nth l n
theorem nth_eq : ∀ (l : AHeap) (i : Nat), nth l i = blkA l i
  | [], i => by simp [nth, blkA]
  | some (.cells k) :: l, 0 => rfl
  | some (.iter _ _) :: l, 0 => rfl
  | none :: l, 0 => rfl
  | x :: l, i + 1 => by
    have := nth_eq l i
    cases x with
    | none => simpa [nth, blkA] using this
    | some o => cases o <;> simpa [nth, blkA] using this
section
variable {h g X l : AHeap} {i j : Nat} {k : Blk} {x v : Option AObj}
theorem blkA_at : blkA (h ++ X) (h.length + i) = nth X i := by
  rw [nth_eq]; unfold blkA; rw [List.getElem?_append_right (by omega)]; simp
theorem blkA_at0 : blkA (h ++ X) h.length = nth X 0 := blkA_at (i := 0)
theorem nth_0 : nth (some (.cells k) :: l) 0 = some k := rfl
theorem nth_S : nth (x :: l) (i + 1) = nth l i := by
  cases x with
  | none => rfl
  | some o => cases o <;> rfl
theorem nth_g : nth (g ++ l) (g.length + i) = nth l i := by rw [nth_eq, blkA_at]
theorem nth_g0 : nth (g ++ l) g.length = nth l 0 := nth_g (i := 0)
theorem nth_gs {v : Option AObj} : nth (g.set j v ++ l) (g.length + i) = nth l i := by have := nth_g (g := g.set j v) (l := l) (i := i); rwa [List.length_set] at this
theorem nth_gs0 {v : Option AObj} : nth (g.set j v ++ l) g.length = nth l 0 := nth_gs (i := 0)
theorem set_gs {w : Option AObj} : (g.set j w ++ X).set (g.length + i) v = g.set j w ++ X.set i v := by rw [List.set_append_right _ _ (by rw [List.length_set]; omega), List.length_set]; simp
theorem set_gs0 {w : Option AObj} : (g.set j w ++ X).set g.length v = g.set j w ++ X.set 0 v := set_gs (i := 0)
theorem set_at : (h ++ X).set (h.length + i) v = h ++ X.set i v := by rw [List.set_append_right _ _ (by omega)]; simp
theorem set_at0 : (h ++ X).set h.length v = h ++ X.set 0 v := set_at (i := 0)
end
/-- A block of the base is still there. -/
theorem blkA_all {h : AHeap} {b : Nat} {k : Blk} (hb : blkA h b = some k) : ∀ X, blkA (h ++ X) b = some k := fun X => blkA_app X hb
/-! ### loads and stores -/
def loadK : Option Blk → Option Bool → Option Nat → Nat → Option Value
  | some k, some true, some n, o => (takeA k.cells o n).map fun l => .agg l.toArray
  | some k, some false, some _, o => k.cells[o]?
  | _, _, _, _ => none
section
variable {P : Program} {h : AHeap} {t : TypeId} {b o n : Nat} {cs : List Value} {z : Nat} {r : Bool} {K : Value → Prop} {v : Value}
theorem loadA_eq : loadA P h t (.pointer (some ⟨b, o, none⟩)) = loadK (blkA h b) (isAggA P t) (sizeA P t) o := by
  simp only [loadA]
  cases blkA h b with
  | none => simp [loadK]
  | some k =>
    cases isAggA P t with
    | none => simp [loadK]
    | some x => cases x <;> cases sizeA P t <;> simp [loadK]
theorem loadK_1 : loadK (some ⟨cs, z, r⟩) (some false) (some n) o = cs[o]? := rfl
theorem loadK_n : someP (loadK (some ⟨cs, z, r⟩) (some true) (some n) o) K = (o + n ≤ cs.length ∧ K (.agg ((cs.drop o).take n).toArray)) := by
  simp only [loadK, takeA, sP_map, sP_ite]
def storeK (h : AHeap) (b o : Nat) : Option Blk → Option Nat → List Value → Option AHeap
  | some k, some n, vs => if n = vs.length ∧ k.ro = false ∧ o + vs.length ≤ k.cells.length ∧ vs.all oneCellA = true then some (h.set b (some (.cells ⟨putCells k.cells o vs, k.esz, false⟩))) else none
  | _, _, _ => none
theorem storeA_eq : storeA P h t (.pointer (some ⟨b, o, none⟩)) v = storeK h b o (blkA h b) (sizeA P t) v.cells.toList := by
  simp only [storeA, writeA]
  cases blkA h b with
  | none => cases sizeA P t <;> simp [storeK]
  | some k =>
    obtain ⟨cells, esz, ro⟩ := k
    cases sizeA P t with
    | none => simp [storeK]
    | some n =>
      simp only [storeK, Option.some.injEq, Array.length_toList]
      by_cases h1 : n = v.cells.size
      · by_cases h2 : ro = false
        · subst h2; simp [h1]
        · simp [h2]
      · simp [h1]
theorem storeK_s {K : AHeap → Prop} {vs : List Value} : someP (storeK h b o (some ⟨cs, z, false⟩) (some n) vs) K = ((n = vs.length ∧ o + vs.length ≤ cs.length ∧ vs.all oneCellA = true) ∧ K (h.set b (some (.cells ⟨putCells cs o vs, z, false⟩)))) := by
  simp only [storeK, sP_ite, true_and]
theorem put_n : putCells cs o [] = cs := rfl
theorem put_c {vs : List Value} : putCells cs o (v :: vs) = putCells (cs.set o v) (o + 1) vs := rfl
end
section
variable {q : IntKind} {i : Int} {s : ByteArray} {t : Bool} {a : Option Addr} {n m : Nat} {l xs cs : List Value} {fn : Fn} {x c : Array Value} {v : Value}
theorem c_int : (Value.int q i).cells = #[.int q i] := rfl
theorem c_str : (Value.string s).cells = #[.string s] := rfl
theorem c_bool : (Value.bool t).cells = #[.bool t] := rfl
theorem c_ptr : (Value.pointer a).cells = #[.pointer a] := rfl
theorem c_sl : (Value.slice a n m).cells = #[.slice a n m] := rfl
theorem c_fn : (Value.func fn x c).cells = #[.func fn x c] := rfl
theorem c_nf : Value.nilFunc.cells = #[.nilFunc] := rfl
theorem c_ni : Value.nilIface.cells = #[.nilIface] := rfl
theorem c_agg : (Value.agg x).cells = x := rfl
theorem o_int : oneCellA (.int q i) = true := rfl
theorem o_str : oneCellA (.string s) = true := rfl
theorem o_bool : oneCellA (.bool t) = true := rfl
theorem o_ptr : oneCellA (.pointer a) = true := rfl
theorem o_sl : oneCellA (.slice a n m) = true := rfl
theorem o_fn : oneCellA (.func fn x c) = true := rfl
theorem o_nf : oneCellA .nilFunc = true := rfl
theorem o_ni : oneCellA .nilIface = true := rfl
theorem all_n : ([] : List Value).all oneCellA = true := rfl
theorem all_c : (v :: l).all oneCellA = (oneCellA v && l.all oneCellA) := rfl
theorem all_a : (l ++ xs).all oneCellA = (l.all oneCellA && xs.all oneCellA) := List.all_append
end
/-! ### values that are built -/
def fillL (place : Nat → Option (Nat × Nat)) (cells : List Value) : List (Nat × Value) → Option (List Value)
  | [] => some cells
  | (i, v) :: rest => match place i with
    | none => none
    | some (off, size) => if v.cells.toList.length = size ∧ off + v.cells.toList.length ≤ cells.length then fillL place (putCells cells off v.cells.toList) rest else none
theorem fold_putCells : ∀ (vs : List Value) (off k : Nat) (cells : Array Value), ((vs.zipIdx k).foldl (fun cs (x : Value × Nat) => cs.setIfInBounds (off + x.2) x.1) cells) = (putCells cells.toList (off + k) vs).toArray
  | [], off, k, cells => by simp [putCells]
  | v :: vs, off, k, cells => by
    simp only [List.zipIdx_cons, List.foldl_cons, putCells]
    rw [fold_putCells vs off (k + 1)]
    simp [Nat.add_assoc]
theorem fill_eq (place : Nat → Option (Nat × Nat)) : ∀ (ps : List (Nat × Value)) (cells : List Value), Instr.fill place cells.toArray ps = (fillL place cells ps).map List.toArray
  | [], cells => rfl
  | (i, v) :: ps, cells => by
    simp only [Instr.fill, fillL]
    cases place i with
    | none => rfl
    | some os =>
      obtain ⟨off, size⟩ := os
      simp only
      have e : v.cells.zipIdx.foldl (fun cs (x : Value × Nat) => cs.setIfInBounds (off + x.2) x.1) cells.toArray = (putCells cells off v.cells.toList).toArray := by
        rw [← Array.foldl_toList, Array.toList_zipIdx, fold_putCells]; simp
      by_cases hc : v.cells.size = size ∧ off + v.cells.size ≤ cells.length
      · have h1 : ¬ ((decide (v.cells.size ≠ size) || decide (off + v.cells.size > cells.toArray.size)) = true) := by simp [hc.1]; omega
        rw [if_neg h1, if_pos (by simpa using hc), ← fill_eq place ps]
        exact congrArg (fun x => Instr.fill place x ps) e
      · have h1 : ((decide (v.cells.size ≠ size) || decide (off + v.cells.size > cells.toArray.size)) = true) := by simp; omega
        rw [if_pos h1, if_neg (by simpa using hc)]
        rfl
def placesA (P : Program) (t : TypeId) : Option (List (Nat × Nat)) :=
  match P.underlying t with
  | some (.struct fs) => fs.toList.mapM fun f => (sizeA P f.type).map fun n => (f.offset, n)
  | _ => none
def sliceT : Option TypeDesc → Option TypeId
  | some (.slice e) => some e
  | _ => none
def structT : Option TypeDesc → Bool
  | some (.struct _) => true
  | _ => false
section
variable {P : Program} {h : AHeap} {t : TypeId} {parts : List (Nat × Value)} {K : Value → Prop} {K2 : Value × AHeap → Prop} {place : Nat → Option (Nat × Nat)} {cells : List Value} {i : Nat} {v : Value}
theorem build_s (hs : structT (P.underlying t) = true) : someP (buildA P t parts) K = someP (zeroA P t) fun z => someP (placesA P t) fun pl => someP (fillL (fun i => pl[i]?) z parts) fun l => K (.agg l.toArray) := by
  have key : buildA P t parts = (zeroA P t).bind fun z => (placesA P t).bind fun pl => (Instr.fill (fun i => pl[i]?) z.toArray parts).map .agg := by
    cases hu : P.underlying t with
    | none => rw [hu] at hs; simp [structT] at hs
    | some d =>
      cases d with
      | struct fs =>
        cases hz : zeroA P t with
        | none => unfold buildA; rw [hu, hz]; rfl
        | some z =>
          show _ = (placesA P t).bind _
          unfold buildA placesA
          rw [hu, hz]
          simp only
          split
          · rename_i h; rw [h]; rfl
          · rename_i h; rw [h]; rfl
      | _ => rw [hu] at hs; simp [structT] at hs
  rw [key, sP_bind]
  congr 1
  funext z
  rw [sP_bind]
  congr 1
  funext pl
  rw [sP_map, fill_eq, sP_map]
theorem fillL_n : fillL place cells [] = some cells := rfl
theorem fillL_c {K : List Value → Prop} : someP (fillL place cells ((i, v) :: parts)) K = someP (place i) fun p => (v.cells.toList.length = p.2 ∧ p.1 + v.cells.toList.length ≤ cells.length) ∧ someP (fillL place (putCells cells p.1 v.cells.toList) parts) K := by
  simp only [fillL]
  cases place i with
  | none => simp [someP_n]
  | some p =>
    simp only [someP_s]
    split
    · rename_i hh; exact propext ⟨fun x => ⟨hh, x⟩, fun x => x.2⟩
    · rename_i hh; simp only [someP_n, hh, false_and]
theorem bslice {len : Nat} : someP (buildSliceA P t len parts h) K2 = someP (sliceT (P.underlying t)) fun e => someP (sizeA P e) fun size => someP (zeroA P e) fun z => (len * size ≤ 16777216 ∧ z.length = size ∧ 0 < size) ∧
    someP (fillL (fun i => some (i * size, size)) (repCells z len) parts) fun cells => cells.all oneCellA = true ∧ K2 (.slice (some ⟨h.length, 0, none⟩) len len, h ++ [some (.cells ⟨cells, size, false⟩)]) := by
  unfold buildSliceA
  cases hu : P.underlying t with
  | none => simp [someP_n, sliceT]
  | some d =>
    cases d with
    | slice e =>
      simp only [sliceT, someP_s]
      cases sizeA P e with
      | none => simp [someP_n]
      | some size =>
        cases zeroA P e with
        | none => simp [someP_n, someP_s]
        | some z =>
          simp only [someP_s]
          split
          · rename_i hc
            rw [fill_eq]
            cases fillL (fun i => some (i * size, size)) (repCells z len) parts with
            | none => simp [someP_n]
            | some cells =>
              simp only [Option.map_some, someP_s, newA, sP_ite, hc]
              simp
          · rename_i hc; simp [someP_n, hc]
    | _ => simp [someP_n, sliceT]
theorem mslice {q q' : IntKind} {n m : Int} : someP (makeSliceA P t (.int q n) (.int q' m) h) K2 = someP (sliceT (P.underlying t)) fun e => someP (sizeA P e) fun size => someP (zeroA P e) fun z => someP (bytesA P e) fun by_ =>
    (0 ≤ n ∧ n ≤ m ∧ m * by_ ≤ 281474976710656 ∧ m ≤ 9223372036854775807 ∧ z.length = size ∧ 0 < size) ∧ K2 (.slice (some ⟨h.length, 0, none⟩) n.toNat n.toNat, h ++ [some (.cells ⟨repCells z n.toNat, size, false⟩)]) := by
  unfold makeSliceA
  cases hu : P.underlying t with
  | none => simp [someP_n, sliceT]
  | some d =>
    cases d with
    | slice e =>
      simp only [sliceT, someP_s]
      cases sizeA P e <;> cases zeroA P e <;> cases bytesA P e <;> simp [someP_n, someP_s, sP_ite, newA]
    | _ => simp [someP_n, sliceT]
end
/-! ### append -/
section
variable {P : Program} {h : AHeap} {t : TypeId} {x : Value} {K2 : Value × AHeap → Prop} {b o n m : Nat}
theorem app_nil : someP (appendA P t (.slice none 0 0) x h) K2 = someP (sliceT (P.underlying t)) fun e => someP (sizeA P e) fun size => someP (zeroA P e) fun z => someP (bytesA P e) fun by_ => (z.length = size ∧ 0 < size) ∧
    someP (moreA h size x) fun r => if r.2 = 0 then K2 (.slice none 0 0, h) else (r.2 * by_ ≤ 140737488355328 ∧ r.2 ≤ 9223372036854775807) ∧ K2 (.slice (some ⟨h.length, 0, none⟩) r.2 r.2, h ++ [some (.cells ⟨r.1, size, false⟩)]) := by
  unfold appendA
  cases hu : P.underlying t with
  | none => simp [someP_n, sliceT]
  | some d =>
    cases d with
    | slice e =>
      simp only [sliceT, someP_s]
      cases sizeA P e with
      | none => simp [someP_n]
      | some size =>
        cases zeroA P e with
        | none => simp [someP_n, someP_s]
        | some z =>
          cases bytesA P e with
          | none => simp [someP_n, someP_s]
          | some by_ =>
            simp only [someP_s]
            split
            · rename_i hc
              cases moreA h size x with
              | none => simp [someP_n]
              | some r =>
                obtain ⟨new, k⟩ := r
                simp only [someP_s, hc, newA]
                split
                · simp [someP_s]
                · simp [sP_ite]
            · rename_i hc; simp [someP_n, hc]
    | _ => simp [someP_n, sliceT]
theorem app_some : someP (appendA P t (.slice (some ⟨b, o, none⟩) n m) x h) K2 = someP (sliceT (P.underlying t)) fun e => someP (sizeA P e) fun size => someP (zeroA P e) fun z => someP (bytesA P e) fun by_ => (z.length = size ∧ 0 < size) ∧
    someP (moreA h size x) fun r => if r.2 = 0 then K2 (.slice (some ⟨b, o, none⟩) n m, h) else someP (blkA h b) fun k => (k.ro = false ∧ k.esz = size ∧ (n + r.2) * by_ ≤ 140737488355328 ∧ n + r.2 ≤ 9223372036854775807 ∧ r.1.all oneCellA = true) ∧
      someP (takeA k.cells o (n * size)) fun old => K2 (.slice (some ⟨h.length, 0, none⟩) (n + r.2) (n + r.2), h.set b none ++ [some (.cells ⟨old ++ r.1, size, false⟩)]) := by
  unfold appendA
  cases hu : P.underlying t with
  | none => simp [someP_n, sliceT]
  | some d =>
    cases d with
    | slice e =>
      simp only [sliceT, someP_s]
      cases sizeA P e with
      | none => simp [someP_n]
      | some size =>
        cases zeroA P e with
        | none => simp [someP_n, someP_s]
        | some z =>
          cases bytesA P e with
          | none => simp [someP_n, someP_s]
          | some by_ =>
            simp only [someP_s]
            split
            · rename_i hc
              cases moreA h size x with
              | none => simp [someP_n]
              | some r =>
                obtain ⟨new, j⟩ := r
                simp only [someP_s, hc, newA]
                split
                · simp [someP_s]
                · cases blkA h b with
                  | none => simp [someP_n]
                  | some k =>
                    simp only [someP_s]
                    split
                    · rename_i hk
                      cases takeA k.cells o (n * size) with
                      | none => simp [someP_n]
                      | some old => simp only [someP_s, List.length_set, hk, and_self, true_and]
                    · rename_i hk; simp only [someP_n, hk, false_and, and_false]
            · rename_i hc; simp [someP_n, hc]
    | _ => simp [someP_n, sliceT]
theorem app_type {d : TypeDesc} {p : Prop} : ((match (some d : Option TypeDesc) with | some (.int _) => False | some _ => True | none => False) ∧ p) = ((match d with | .int _ => False | _ => True) ∧ p) := by cases d <;> rfl
theorem more_str {size : Nat} {s : ByteArray} : moreA h size (.string s) = if size = 1 then some (bytesV s, s.size) else none := rfl
theorem more_nil {size : Nat} {K : List Value × Nat → Prop} : someP (moreA h size (.slice none 0 0)) K = K ([], 0) := by simp [moreA, sliceCells, someP_s]
theorem more_some {size : Nat} {K : List Value × Nat → Prop} : someP (moreA h size (.slice (some ⟨b, o, none⟩) n m)) K = someP (blkA h b) fun k => someP (takeA k.cells o (n * size)) fun l => K (l, n) := by
  simp only [moreA, sliceCells]
  cases blkA h b <;> simp [someP_n, someP_s, sP_map]
theorem takeA_eq {l : List Value} {K : List Value → Prop} : someP (takeA l o n) K = (o + n ≤ l.length ∧ K ((l.drop o).take n)) := by simp only [takeA, sP_ite]
end
/-! ### strings -/
def str (l : List UInt8) : ByteArray := ⟨l.toArray⟩
theorem str_mk (l : List UInt8) : ByteArray.mk l.toArray = str l := rfl
theorem str_of (s : ByteArray) : ∃ l, s = str l ∧ l.length = s.size := ⟨s.data.toList, by cases s; rfl, rfl⟩
section
variable {P : Program} {h : AHeap} {t u : TypeId} {a c l : List UInt8} {K : Value → Prop} {lo hi : Option Value} {q q' : IntKind} {i j : Int} {n b o m : Nat} {cx cy : Bool}
theorem str_size : (str l).size = l.length := by simp [str, ByteArray.size]
theorem str_data : (str l).data.toList = l := by simp [str]
theorem str_inj : (str a = str c) = (a = c) := propext ⟨fun hh => by have := congrArg (fun x => x.data.toList) hh; simpa [str] using this, fun hh => by rw [hh]⟩
theorem str_app : str a ++ str c = str (a ++ c) := by
  apply ByteArray.ext
  simp [str, ByteArray.data_append]
theorem str_ext : (str l).extract n m = str ((l.drop n).take (m - n)) := by
  apply ByteArray.ext
  simp [str, ByteArray.data_extract]
theorem ss_add : someP (binA P .add t cx cy (.string (str a)) (.string (str c))) K = (a.length + c.length ≤ 9223372036854775807 ∧ K (.string (str (a ++ c)))) := by
  rw [s_add, sP_ite, str_size, str_size, str_app]
theorem ss_eql : binA P .eql t cx cy (.string (str a)) (.string (str c)) = some (.bool (decide (a = c))) := by rw [s_eql]; simp only [str_inj]
theorem ss_neq : binA P .neq t cx cy (.string (str a)) (.string (str c)) = some (.bool (decide (a ≠ c))) := by rw [s_neq]; simp only [ne_eq, str_inj]
theorem bd_nn {K : Nat × Nat → Prop} : someP (boundsA n none none) K = K (0, n) := by simp [boundsA, boundA, someP_s]
theorem bd_ni {K : Nat × Nat → Prop} : someP (boundsA n none (some (.int q j))) K = ((0 ≤ j ∧ j ≤ n) ∧ K (0, j.toNat)) := by
  simp only [boundsA, boundA]
  by_cases h1 : 0 ≤ j
  · by_cases h2 : j ≤ n
    · rw [if_pos h1]; simp only [Nat.zero_le, true_and]; rw [if_pos (by omega)]; simp [someP_s, h1, h2]
    · rw [if_pos h1]; simp only [Nat.zero_le, true_and]; rw [if_neg (by omega)]; simp [someP_n, h2]
  · rw [if_neg h1]; simp [someP_n, h1]
theorem bd_in {K : Nat × Nat → Prop} : someP (boundsA n (some (.int q i)) none) K = ((0 ≤ i ∧ i ≤ n) ∧ K (i.toNat, n)) := by
  simp only [boundsA, boundA]
  by_cases h1 : 0 ≤ i
  · by_cases h2 : i ≤ n
    · rw [if_pos h1]; simp only [Nat.le_refl, and_true]; rw [if_pos (by omega)]; simp [someP_s, h1, h2]
    · rw [if_pos h1]; simp only [Nat.le_refl, and_true]; rw [if_neg (by omega)]; simp [someP_n, h2]
  · rw [if_neg h1]; simp [someP_n, h1]
theorem bd_ii {K : Nat × Nat → Prop} : someP (boundsA n (some (.int q i)) (some (.int q' j))) K = ((0 ≤ i ∧ i ≤ j ∧ j ≤ n) ∧ K (i.toNat, j.toNat)) := by
  simp only [boundsA, boundA]
  by_cases h1 : 0 ≤ i
  · by_cases h2 : 0 ≤ j
    · rw [if_pos h1, if_pos h2]
      simp only
      by_cases h3 : i ≤ j ∧ j ≤ n
      · rw [if_pos (by omega)]; simp [someP_s, h1, h3]
      · rw [if_neg (by omega)]; simp only [someP_n, h1, h3, and_false, false_and]
    · rw [if_pos h1, if_neg h2]
      have : ¬ (0 ≤ i ∧ i ≤ j ∧ j ≤ n) := by omega
      simp only [someP_n, this, false_and]
  · rw [if_neg h1]; simp [someP_n, h1]
theorem slice_str (hu : P.underlying t = some .string) : someP (sliceA P t (.string (str l)) lo hi h) K = someP (boundsA l.length lo hi) fun p => K (.string (str ((l.drop p.1).take (p.2 - p.1)))) := by
  simp only [sliceA, hu, sP_map, str_size, str_ext]
theorem index_str (hu : P.underlying t = some .string) : someP (indexA P t (.string (str l)) (.int q i)) K = ((0 ≤ i ∧ i < l.length) ∧ K (.int .u8 ((l[i.toNat]?).getD 0).toNat)) := by
  simp only [indexA, hu]
  by_cases h1 : 0 ≤ i
  · rw [if_pos h1]
    have e : (str l).data[i.toNat]? = l[i.toNat]? := by simp [str]
    rw [e]
    by_cases h2 : i < l.length
    · rw [List.getElem?_eq_getElem (by omega)]; simp [someP_s, h1, h2]
    · rw [List.getElem?_eq_none (by omega)]; simp [someP_n, h2]
  · rw [if_neg h1]; simp [someP_n, h1]
theorem len_str (hu : P.underlying t = some .string) : lenA P t (.string (str l)) = some (.int .i64 l.length) := by simp [lenA, hu, str_size]
theorem len_sl {e : TypeId} (hu : sliceT (P.underlying t) = some e) {ad : Option Addr} : lenA P t (.slice ad n m) = some (.int .i64 n) := by
  unfold lenA
  cases hd : P.underlying t with
  | none => rw [hd] at hu; simp [sliceT] at hu
  | some d => cases d <;> first | rfl | (rw [hd] at hu; simp [sliceT] at hu)
/-- len of a slice, its type looked at by simp. -/
theorem len_sl' {ad : Option Addr} : someP (lenA P t (.slice ad n m)) K = match P.underlying t with | some (.slice _) => K (.int .i64 n) | some (.array k _) => K (.int .i64 k) | _ => False := by
  unfold lenA
  cases hd : P.underlying t with
  | none => simp [someP_n]
  | some d => cases d <;> simp [someP_n, someP_s]
theorem cv_sb {K2 : Value × AHeap → Prop} (ht : P.underlying t = some .string) : someP (convA P t u (.string (str l)) h) K2 = match P.underlying u with
    | some .string => K2 (.string (str l), h)
    | some (.slice e) => (isU8 P e = true ∧ sizeA P e = some 1) ∧ K2 (.slice (some ⟨h.length, 0, none⟩) l.length l.length, h ++ [some (.cells ⟨l.map byteV, 1, false⟩)])
    | _ => False := by
  unfold convA
  rw [ht]
  cases P.underlying u with
  | none => simp [someP_n]
  | some d =>
    have e : bytesV (str l) = l.map byteV := by rw [bytesV_map, str_data]
    cases d <;> simp [someP_n, someP_s, sP_ite, newA, str_size, e]
theorem cv_bs {K2 : Value × AHeap → Prop} {e : TypeId} (hu : P.underlying u = some .string) (ht : P.underlying t = some (.slice e)) (he : isU8 P e = true) : someP (convA P t u (.slice (some ⟨b, o, none⟩) n m) h) K2 = someP (blkA h b) fun k => someP (takeA k.cells o n) fun cs => someP (strOf cs) fun r => K2 (.string (str r), h) := by
  unfold convA
  rw [ht, hu]
  simp only [he, if_true, sliceCells, Nat.mul_one]
  cases blkA h b with
  | none => simp [someP_n]
  | some k =>
    simp only [someP_s]
    cases takeA k.cells o n with
    | none => simp [someP_n]
    | some cs => cases hs : strOf cs <;> simp [someP_n, someP_s, str, hs]
end
theorem cv_ss {P : Program} {h : AHeap} {t e : TypeId} {b o n m : Nat} {K2 : Value × AHeap → Prop} (ht : P.underlying t = some (.slice e)) (he : isU8 P e = true) : someP (convA P t t (.slice (some ⟨b, o, none⟩) n m) h) K2 = someP (blkA h b) fun k => k.ro = false ∧ K2 (.slice (some ⟨b, o, none⟩) n m, h) := by
  unfold convA
  rw [ht]
  simp only [he, and_self, if_true]
  cases blkA h b with
  | none => simp [someP_n]
  | some k => cases hr : k.ro <;> simp [someP_n, someP_s, hr]
theorem takeMap {α β : Type} (f : α → β) (l : List α) : (l.map f).take l.length = l.map f := List.take_of_length_le (by rw [List.length_map]; exact Nat.le_refl _)
theorem takeDrop {α : Type} (l : List α) (n : Nat) : (l.drop n).take (l.length - n) = l.drop n := List.take_of_length_le (by rw [List.length_drop]; exact Nat.le_refl _)
theorem takeAll {α : Type} (l : List α) : l.take l.length = l := List.take_length
theorem cast0 : ((0 : Nat) : Int) = 0 := rfl
theorem cast1 : ((1 : Nat) : Int) = 1 := rfl
theorem rep0 (z : List Value) : repCells z 0 = [] := rfl
theorem rep1 (z : List Value) : repCells z 1 = z := List.append_nil z
theorem rep2 (z : List Value) : repCells z 2 = z ++ z := by simp [repCells]
theorem rep3 (z : List Value) : repCells z 3 = z ++ (z ++ z) := by simp [repCells]
theorem rep4 (z : List Value) : repCells z 4 = z ++ (z ++ (z ++ z)) := by simp [repCells]
theorem bytesV_str (l : List UInt8) : bytesV (str l) = l.map byteV := by rw [bytesV_map, str_data]
theorem byteV_one (b : UInt8) : oneCellA (byteV b) = true := rfl
theorem all_byteV (l : List UInt8) : (l.map byteV).all oneCellA = true := by
  refine List.all_eq_true.2 fun v hv => ?_
  obtain ⟨b, _, rfl⟩ := List.mem_map.1 hv
  rfl
/-! ### places in slices -/
section
variable {P : Program} {h : AHeap} {t : TypeId} {K : Value → Prop} {q : IntKind} {i : Int} {n b o m : Nat}
theorem idx_sl : someP (indexAddrA P t (.slice (some ⟨b, o, none⟩) n m) (.int q i)) K = someP (sliceT (P.underlying t)) fun e => someP (sizeA P e) fun z => (0 ≤ i ∧ i < n) ∧ K (.pointer (some ⟨b, o + i.toNat * z, none⟩)) := by
  unfold indexAddrA
  cases P.underlying t with
  | none => simp [someP_n, sliceT]
  | some d =>
    cases d with
    | slice e => simp only [sliceT, someP_s]; cases sizeA P e <;> simp [someP_n, someP_s, sP_ite]
    | _ => simp [someP_n, sliceT]
theorem idx_arr {e : TypeId} (hu : P.underlying t = some (.array n e)) : someP (indexAddrA P t (.pointer (some ⟨b, o, none⟩)) (.int q i)) K = someP (sizeA P e) fun z => (0 ≤ i ∧ i < n) ∧ K (.pointer (some ⟨b, o + i.toNat * z, none⟩)) := by
  unfold indexAddrA
  rw [hu]
  simp only
  cases sizeA P e <;> simp [someP_n, someP_s, sP_ite]
theorem slT {e : TypeId} : sliceT (some (.slice e)) = some e := rfl
theorem stT {fs : Array Field} : structT (some (.struct fs)) = true := rfl
theorem part_1 {u : TypeId} {cs : List Value} {off : Nat} (ha : isAggA P u = some false) : someP (partA P u cs.toArray off) K = ((sizeA P u).isSome = true ∧ someP (cs[off]?) K) := by
  unfold partA
  rw [ha]
  cases sizeA P u <;> simp [someP_n]
theorem part_n {u : TypeId} {cs : List Value} {off : Nat} (ha : isAggA P u = some true) : someP (partA P u cs.toArray off) K = someP (sizeA P u) fun n => K (.agg ((cs.drop off).take n).toArray) := by
  unfold partA
  rw [ha]
  cases sizeA P u with
  | none => simp [someP_n]
  | some n => simp [someP_s]
end
/-! ### slices as lists -/
def SlA {α : Type} (f : α → List Value) (sz : Nat) (ro : Bool) (h : AHeap) (a : Option Addr) (l : List α) : Prop :=
  (a = none ∧ l = []) ∨ ∃ b o cells, a = some ⟨b, o, none⟩ ∧ blkA h b = some ⟨cells, sz, ro⟩ ∧ (cells.drop o).take (l.length * sz) = l.flatMap f ∧ o + l.length * sz ≤ cells.length
theorem Sl.split {α : Type} {f : α → List Value} {sz : Nat} {ro : Bool} {h : AHeap} {v : Value} {l : List α} (s : Sl f sz ro h v l) : ∃ a m, v = .slice a l.length m ∧ (a = none → m = 0) ∧ SlA f sz ro h a l := by
  rcases s with ⟨rfl, rfl⟩ | ⟨b, o, m, cells, h1, h2, h3, h4⟩
  · exact ⟨none, 0, rfl, fun _ => rfl, .inl ⟨rfl, rfl⟩⟩
  · exact ⟨some ⟨b, o, none⟩, m, h1, fun hh => (by cases hh), .inr ⟨b, o, cells, rfl, h2, h3, h4⟩⟩
section
variable {α : Type} {f : α → List Value} {sz : Nat} {ro : Bool} {h : AHeap} {a : Option Addr} {l : List α} {P : Program}
theorem SlA.sl (s : SlA f sz ro h a l) {m : Nat} (hm : a = none → m = 0) : Sl f sz ro h (.slice a l.length m) l := by
  rcases s with ⟨rfl, rfl⟩ | ⟨b, o, cells, rfl, h2, h3, h4⟩
  · exact .inl ⟨by rw [hm rfl]; rfl, rfl⟩
  · exact .inr ⟨b, o, m, cells, rfl, h2, h3, h4⟩
theorem SlA.mono {h' : AHeap} (s : SlA f sz ro h a l) (e : Ext h h') : SlA f sz ro h' a l := by
  rcases s with s | ⟨b, o, cells, h1, h2, h3⟩
  · exact .inl s
  · exact .inr ⟨b, o, cells, h1, e.blk h2, h3⟩
theorem SlA.nil {h : AHeap} : SlA f sz ro h none ([] : List α) := .inl ⟨rfl, rfl⟩
theorem SlA.app (s : SlA f sz ro h a l) (X : AHeap) : SlA f sz ro (h ++ X) a l := s.mono (.app h X)
/-- An element of a slice: where it lies, what a load brings. -/
theorem SlA.at (s : SlA f sz ro h a l) (hf : ∀ x, (f x).length = sz) {i : Nat} {x : α} (hx : l[i]? = some x) {e : TypeId} (ha : isAggA P e = some true) (hs : sizeA P e = some sz) :
    ∃ b o, a = some ⟨b, o, none⟩ ∧ ∀ X, loadA P (h ++ X) e (.pointer (some ⟨b, o + i * sz, none⟩)) = some (.agg (f x).toArray) := by
  have hlt := (List.getElem?_eq_some_iff.1 hx).1
  rcases s with ⟨_, rfl⟩ | ⟨b, o, cells, rfl, h2, h3, h4⟩
  · simp at hx
  · refine ⟨b, o, rfl, fun X => ?_⟩
    have hc := flatMap_chunk hf l i x hx
    rw [← h3, List.drop_take, List.take_take, List.drop_drop] at hc
    have hle : (i + 1) * sz ≤ l.length * sz := Nat.mul_le_mul_right _ hlt
    rw [Nat.add_mul, Nat.one_mul] at hle
    rw [Nat.min_eq_left (by omega)] at hc
    rw [loadN ha hs (blkA_app X h2) (by simp only; omega)]
    rw [hc]
/-- The same, an element of one cell. -/
theorem SlA.at1 (s : SlA f 1 ro h a l) {g : α → Value} (hf : ∀ x, f x = [g x]) {i : Nat} {x : α} (hx : l[i]? = some x) {e : TypeId} (ha : isAggA P e = some false) (hs : sizeA P e = some 1) :
    ∃ b o, a = some ⟨b, o, none⟩ ∧ ∀ X, loadA P (h ++ X) e (.pointer (some ⟨b, o + i * 1, none⟩)) = some (g x) := by
  have hlt := (List.getElem?_eq_some_iff.1 hx).1
  rcases s with ⟨_, rfl⟩ | ⟨b, o, cells, rfl, h2, h3, h4⟩
  · simp at hx
  · refine ⟨b, o, rfl, fun X => ?_⟩
    have hc := flatMap_chunk (sz := 1) (f := f) (fun x => by rw [hf]; rfl) l i x hx
    rw [← h3, List.drop_take, List.take_take, List.drop_drop, hf] at hc
    rw [Nat.min_eq_left (by omega)] at hc
    rw [load1 ha hs (blkA_app X h2)]
    simp only
    have h5 : ((cells.drop (o + i * 1)).take 1)[0]? = some (g x) := by rw [hc]; rfl
    rwa [List.getElem?_take_of_lt (by omega), List.getElem?_drop, Nat.add_zero] at h5
/-- An element of a slice: its block, its cells. -/
theorem SlA.get (s : SlA f sz ro h a l) (hf : ∀ x, (f x).length = sz) {i : Nat} {x : α} (hx : l[i]? = some x) :
    ∃ b o cells, a = some ⟨b, o, none⟩ ∧ blkA h b = some ⟨cells, sz, ro⟩ ∧ (∀ X, blkA (h ++ X) b = some ⟨cells, sz, ro⟩) ∧ o + i * sz + sz ≤ cells.length ∧ (cells.drop (o + i * sz)).take sz = f x := by
  have hlt := (List.getElem?_eq_some_iff.1 hx).1
  rcases s with ⟨_, rfl⟩ | ⟨b, o, cells, rfl, h2, h3, h4⟩
  · simp at hx
  · have hc := flatMap_chunk hf l i x hx
    rw [← h3, List.drop_take, List.take_take, List.drop_drop] at hc
    have hle : (i + 1) * sz ≤ l.length * sz := Nat.mul_le_mul_right _ hlt
    rw [Nat.add_mul, Nat.one_mul] at hle
    rw [Nat.min_eq_left (by omega)] at hc
    exact ⟨b, o, cells, rfl, h2, fun X => blkA_app X h2, by omega, hc⟩
/-- The same, an element of one cell. -/
theorem SlA.get1 (s : SlA f 1 ro h a l) {g : α → Value} (hf : ∀ x, f x = [g x]) {i : Nat} {x : α} (hx : l[i]? = some x) :
    ∃ b o cells, a = some ⟨b, o, none⟩ ∧ blkA h b = some ⟨cells, 1, ro⟩ ∧ (∀ X, blkA (h ++ X) b = some ⟨cells, 1, ro⟩) ∧ o + i < cells.length ∧ cells[o + i]? = some (g x) := by
  obtain ⟨b, o, cells, h1, h2, h3, h4, h5⟩ := s.get (fun x => by rw [hf]; rfl) hx
  refine ⟨b, o, cells, h1, h2, h3, by omega, ?_⟩
  rw [Nat.mul_one, hf] at h5
  have h6 : ((cells.drop (o + i)).take 1)[0]? = some (g x) := by rw [h5]; rfl
  rwa [List.getElem?_take_of_lt (by omega), List.getElem?_drop, Nat.add_zero] at h6
def subA (a : Option Addr) (i sz : Nat) : Option Addr := a.map fun x => ⟨x.block, x.off + i * sz, x.spot⟩
theorem SlA.sub (s : SlA f sz ro h a l) (hf : ∀ x, (f x).length = sz) {i j : Nat} (hij : i ≤ j) (hj : j ≤ l.length) : SlA f sz ro h (subA a i sz) ((l.drop i).take (j - i)) := by
  rcases s with ⟨rfl, rfl⟩ | ⟨b, o, cells, rfl, h2, h3, h4⟩
  · exact .inl ⟨rfl, by simp⟩
  · refine .inr ⟨b, o + i * sz, cells, rfl, h2, ?_, ?_⟩
    · have e1 : l = l.take i ++ l.drop i := (List.take_append_drop i l).symm
      have e2 : (l.flatMap f).drop (i * sz) = (l.drop i).flatMap f := by
        conv => lhs; rw [e1, List.flatMap_append]
        have := flatMap_len hf (l.take i)
        rw [List.length_take, Nat.min_eq_left (by omega)] at this
        rw [List.drop_append, List.drop_of_length_le (by omega), this, Nat.sub_self]
        simp
      have e3 : ∀ (m : List α) (k : Nat), k ≤ m.length → (m.flatMap f).take (k * sz) = (m.take k).flatMap f := by
        intro m k hk
        have e4 : m = m.take k ++ m.drop k := (List.take_append_drop k m).symm
        conv => lhs; rw [e4, List.flatMap_append]
        have := flatMap_len hf (m.take k)
        rw [List.length_take, Nat.min_eq_left hk] at this
        rw [List.take_append_of_le_length (by omega), List.take_of_length_le (by omega)]
      have e5 : ((l.drop i).take (j - i)).length = j - i := by simp; omega
      rw [e5, ← e3 _ _ (by simp; omega), ← e2, ← h3, List.drop_take, List.take_take, List.drop_drop]
      congr 1
      have : i * sz + (j - i) * sz ≤ l.length * sz := by rw [← Nat.add_mul]; exact Nat.mul_le_mul_right _ (by omega)
      omega
    · have : i * sz + (j - i) * sz ≤ l.length * sz := by rw [← Nat.add_mul]; exact Nat.mul_le_mul_right _ (by omega)
      simp only [List.length_take, List.length_drop]
      rw [Nat.min_eq_left (by omega)]
      omega
/-- Slicing a slice. -/
theorem SlA.slice (s : SlA f sz ro h a l) {t e : TypeId} (hu : P.underlying t = some (.slice e)) (hs : sizeA P e = some sz) {m : Nat} (hm : a = none → m = 0) {lo hi : Option Value} {K : Value → Prop} (X : AHeap) :
    someP (sliceA P t (.slice a l.length m) lo hi (h ++ X)) K = someP (boundsA l.length lo hi) fun p => K (.slice (subA a p.1 sz) (p.2 - p.1) (p.2 - p.1)) := by
  rcases s with ⟨rfl, rfl⟩ | ⟨b, o, cells, rfl, h2, h3, h4⟩
  · obtain rfl := hm rfl
    simp only [sliceA, hu, hs, List.length_nil]
    cases hb : boundsA 0 lo hi with
    | none => simp [someP_n]
    | some p =>
      obtain ⟨x, y⟩ := p
      have : y = 0 ∧ x = 0 := by
        unfold boundsA at hb
        split at hb
        · split at hb
          · rename_i hc; simp only [Option.some.injEq, Prod.mk.injEq] at hb; omega
          · cases hb
        · cases hb
      obtain ⟨rfl, rfl⟩ := this
      simp [someP_s, subA]
  · simp only [sliceA, hu, hs, blkA_app X h2]
    cases hb : boundsA l.length lo hi with
    | none => simp [someP_n]
    | some p => simp [someP_s, subA]
end
/-! ### one heap begins with another -/
def pre (X Y : AHeap) : Prop := ∃ g, Y = X ++ g
section
variable {X Y g : AHeap} {x : Option AObj} {op : Op} {m : Bool} {p : Prop}
theorem pre_n : pre [] Y = True := by simp [pre]
theorem pre_c : pre (x :: X) (x :: Y) = pre X Y := by simp [pre]
theorem pre_a : pre (g ++ X) (g ++ Y) = pre X Y := by simp [pre, List.append_assoc]
theorem pre_g : pre g (g ++ Y) = True := by simp [pre]
theorem pre_r : pre g g = True := by simp [pre]
theorem DQ_m (h : m = true) : DQ op m X Y p = p := by rw [h]; exact DQ_mut
theorem DQ_pre (h : pre X Y) : DQ op m X Y p = p := by obtain ⟨g, rfl⟩ := h; exact DQ_app
end
/-! ### shifts and bits by constants -/
section
variable {P : Program} {t : TypeId} {cx cy : Bool} {q : IntKind} {x : Nat}
theorem shl_1 (h : x * 2 < 9223372036854775808) : binA P .shl t cx cy (.int .i64 x) (.int q 1) = some (.int .i64 (x * 2 : Nat)) := b_shl64 (n := 1) (by decide) (by simpa using h)
theorem shl_2 (h : x * 4 < 9223372036854775808) : binA P .shl t cx cy (.int .i64 x) (.int q 2) = some (.int .i64 (x * 4 : Nat)) := b_shl64 (n := 2) (by decide) (by simpa using h)
theorem shl_3 (h : x * 8 < 9223372036854775808) : binA P .shl t cx cy (.int .i64 x) (.int q 3) = some (.int .i64 (x * 8 : Nat)) := b_shl64 (n := 3) (by decide) (by simpa using h)
theorem shl_4 (h : x * 16 < 9223372036854775808) : binA P .shl t cx cy (.int .i64 x) (.int q 4) = some (.int .i64 (x * 16 : Nat)) := b_shl64 (n := 4) (by decide) (by simpa using h)
theorem shl_8 (h : x * 256 < 9223372036854775808) : binA P .shl t cx cy (.int .i64 x) (.int q 8) = some (.int .i64 (x * 256 : Nat)) := b_shl64 (n := 8) (by decide) (by simpa using h)
theorem shl_16 (h : x * 65536 < 9223372036854775808) : binA P .shl t cx cy (.int .i64 x) (.int q 16) = some (.int .i64 (x * 65536 : Nat)) := b_shl64 (n := 16) (by decide) (by simpa using h)
theorem shl_24 (h : x * 16777216 < 9223372036854775808) : binA P .shl t cx cy (.int .i64 x) (.int q 24) = some (.int .i64 (x * 16777216 : Nat)) := b_shl64 (n := 24) (by decide) (by simpa using h)
theorem shr_1 : binA P .shr t cx cy (.int .i64 x) (.int q 1) = some (.int .i64 (x / 2 : Nat)) := b_shr64 (n := 1) (by decide)
theorem shr_2 : binA P .shr t cx cy (.int .i64 x) (.int q 2) = some (.int .i64 (x / 4 : Nat)) := b_shr64 (n := 2) (by decide)
theorem shr_3 : binA P .shr t cx cy (.int .i64 x) (.int q 3) = some (.int .i64 (x / 8 : Nat)) := b_shr64 (n := 3) (by decide)
theorem shr_4 : binA P .shr t cx cy (.int .i64 x) (.int q 4) = some (.int .i64 (x / 16 : Nat)) := b_shr64 (n := 4) (by decide)
theorem shr_8 : binA P .shr t cx cy (.int .i64 x) (.int q 8) = some (.int .i64 (x / 256 : Nat)) := b_shr64 (n := 8) (by decide)
theorem and_1 (h : x < 9223372036854775808) : binA P .and t cx cy (.int .i64 x) (.int .i64 1) = some (.int .i64 (x % 2 : Nat)) := by
  have e := b_and64 (P := P) (t := t) (cx := cx) (cy := cy) (x := x) (y := 1) h (by decide)
  rw [Nat.and_one_is_mod] at e; exact e
theorem and_7 (h : x < 9223372036854775808) : binA P .and t cx cy (.int .i64 x) (.int .i64 7) = some (.int .i64 (x % 8 : Nat)) := by
  have e := b_and64 (P := P) (t := t) (cx := cx) (cy := cy) (x := x) (y := 7) h (by decide)
  rw [show (7 : Nat) = 2 ^ 3 - 1 from rfl, Nat.and_two_pow_sub_one_eq_mod] at e; exact e
theorem or_add (a b k : Nat) (h : b < 2 ^ k) : a * 2 ^ k ||| b = a * 2 ^ k + b := by
  rw [Nat.mul_comm, Nat.two_pow_add_eq_or_of_lt h]
theorem or_256 {a b : Nat} (h : b < 256) : a * 256 ||| b = a * 256 + b := or_add a b 8 h
theorem or_16 {a b : Nat} (h : b < 16) : a * 16 ||| b = a * 16 + b := or_add a b 4 h
theorem or_2 {a b : Nat} (h : b < 2) : a * 2 ||| b = a * 2 + b := or_add a b 1 h
theorem addN {a b : Nat} (h : a + b < 9223372036854775808) : binA P .add t cx cy (.int .i64 a) (.int .i64 b) = some (.int .i64 (a + b : Nat)) := by
  rw [b_add, wrap64 (by omega) (by omega)]; rfl
end
/-! ### calls that leave all blocks as they were -/
noncomputable def gar (c : Ctx) (f : FuncId) (args : List Value) (h : AHeap) : AHeap := ((evU c f args h).map (fun r => r.2.drop h.length)).getD []
theorem Quiet.eq {c : Ctx} {f : FuncId} {args : List Value} {h : AHeap} {w : Value} (hq : Quiet c f args h w) (K : Value → AHeap → Prop) : FW c f args h K = K w (h ++ gar c f args h) := by
  obtain ⟨v, h', he, rfl, g, rfl⟩ := hq
  have e : gar c f args h = g := by unfold gar; rw [he]; simp
  rw [e]
  exact propext ⟨fun ⟨v2, h2, he2, hk⟩ => by rw [he] at he2; cases he2; exact hk, fun hk => ⟨_, _, he, hk⟩⟩
theorem Quiet.use' {c : Ctx} {f : FuncId} {args : List Value} {h : AHeap} {w : Value} (hq : Quiet c f args h w) {K : Value → AHeap → Prop} (hk : ∀ g, K w (h ++ g)) : FW c f args h K := by
  refine FW.mono hq fun v h' hh => ?_
  obtain ⟨rfl, g, rfl⟩ := hh
  exact hk g
/-- A call that hands back something new and leaves all blocks as they were. -/
def Gives (c : Ctx) (f : FuncId) (args : List Value) (h : AHeap) (R : Value → AHeap → Prop) : Prop := FW c f args h fun v h' => Ext h h' ∧ R v h'
theorem Gives.use {c : Ctx} {f : FuncId} {args : List Value} {h : AHeap} {R : Value → AHeap → Prop} (hq : Gives c f args h R) {K : Value → AHeap → Prop} (hk : ∀ v g, R v (h ++ g) → K v (h ++ g)) : FW c f args h K := by
  refine FW.mono hq fun v h' hh => ?_
  obtain ⟨⟨g, rfl⟩, hr⟩ := hh
  exact hk v g hr
end Go.Abs
