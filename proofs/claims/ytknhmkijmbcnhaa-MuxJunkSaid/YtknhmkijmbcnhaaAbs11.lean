/- Abs11: conversions, a range over a string, append, copy. Conditions: none. -/
import Derived.Test.YtknhmkijmbcnhaaAbs10
set_option linter.unusedVariables false
set_option linter.unusedSimpArgs false
namespace Go.Abs
theorem strOf_ints : ∀ (l : List Value) (bs : List UInt8), strOf l = some bs → ∃ ns : List Int, l = ns.map (Value.int .u8) ∧ bs = ns.map fun n => UInt8.ofNat n.toNat
  | [], bs, h => by simp only [strOf, Option.some.injEq] at h; exact ⟨[], rfl, h.symm⟩
  | v :: l, bs, h => by
    cases v with
    | int k n =>
      cases k <;> simp only [strOf, reduceCtorEq, Option.map_eq_some_iff] at h
      obtain ⟨r, h1, rfl⟩ := h
      obtain ⟨ns, rfl, rfl⟩ := strOf_ints l r h1
      exact ⟨n :: ns, rfl, rfl⟩
    | _ => simp [strOf] at h
theorem foldl_push : ∀ (ns : List Int) (s : ByteArray), ns.foldl (fun r n => r.push (UInt8.ofNat n.toNat)) s = ⟨s.data ++ (ns.map fun n => UInt8.ofNat n.toNat).toArray⟩
  | [], s => by simp
  | n :: ns, s => by
    simp only [List.foldl_cons, foldl_push ns, List.map_cons]
    congr 1
    apply Array.ext'
    simp [ByteArray.push]
theorem LR.ints {E : Env} : ∀ {ns : List Int} {ys : List Value}, LR E (ns.map (Value.int .u8)) ys → ys = ns.map (Value.int .u8)
  | [], ys, h => by have := h.1; cases ys with | nil => rfl | cons _ _ => simp at this
  | n :: ns, ys, h => by
    obtain ⟨y, zs, rfl, h1, h2⟩ := LR.cases (xs := ns.map (Value.int .u8)) h
    cases h1
    rw [LR.ints h2]; rfl
section
variable {G : Nat → Option Nat} {B : Nat} {E : Env} {h h' : AHeap} {w : World} {P : Program}
theorem isU8_under {e : TypeId} (he : isU8 P e = true) : P.underlying e = some (.int .u8) := by
  unfold isU8 at he
  split at he
  · assumption
  · cases he
/-- A slice's cells, as the model loads them (k elements of n). -/
theorem sliceCells_sim (s : Sim G B E h w) {size : Nat} {x x' : Value} {l : List Value} (hx : VR E x x') (hl : sliceCells h size x = some l) {a : Option Addr} {n m : Nat} (hxe : x = .slice a n m) :
    ∃ l', LR E l l' ∧ l.length = n * size ∧ (∀ k, k ≤ n → ∀ w' : World, w'.heap = w.heap → (Builtin.firstCells size k x').run P w' = .ok (l'.take (k * size)).toArray w') ∧ (∃ a' m', x' = .slice a' n m' ∧ (a' = none → n = 0)) := by
  subst hxe
  unfold sliceCells at hl
  split at hl
  · rename_i hh
    cases hl
    cases hh
    cases hx
    refine ⟨[], LR.nil E, by simp, fun k hk w' hw => ?_, none, 0, rfl, fun _ => rfl⟩
    simp [Builtin.firstCells]
  · rename_i b o n' m' hh
    cases hh
    split at hl
    · rename_i kk hb
      obtain ⟨off, cap, en, rfl, he, g1, g2, g3⟩ : ∃ off cap en, x' = .slice (some ⟨en.blk, off, none⟩) n cap ∧ E b = some en ∧ n ≤ cap ∧ (cap ≠ 0 → off + cap * en.esz ≤ en.csz) ∧ (n ≠ 0 → off = en.base + o) := by
        cases hx with
        | sl he h1 h2 h3 => exact ⟨_, _, _, rfl, he, h1, h2, h3⟩
      obtain ⟨l', h2, h3, h3', h4⟩ := cells_at (s.obj b _ en (blkA_some hb) he) hl
      refine ⟨l', h2, h3', fun k hk w' hw => ?_, _, _, rfl, by simp⟩
      by_cases hk0 : k * size = 0
      · simp [Builtin.firstCells, hk0, loadCells, loadCellsFrom]
      · have hn0 : n ≠ 0 := by intro h0; rw [h0] at hk; have : k = 0 := by omega
                               rw [this] at hk0; simp at hk0
        have hlen : (l'.take (k * size)).length = k * size := by
          rw [List.length_take, h3]; exact Nat.min_eq_left (Nat.mul_le_mul_right _ hk)
        have hr := run_loadCells_list (P := P) w' ⟨en.blk, off, none⟩ (l'.take (k * size)) (fun j v hv => by
          rw [List.getElem?_take] at hv
          split at hv
          · rw [addr_add, g3 hn0]
            have := h4 j v hv
            simpa [World.cell?, hw] using this
          · cases hv)
        rw [hlen] at hr
        simp only [Builtin.firstCells, hr]
    · cases hl
  · cases hl
theorem conv_sim (s : Sim G B E h w) (hfree : h.length < h'.length → E h.length = none) {src dst : TypeId} {x x' v : Value} (hx : VR E x x') (hc : convA P src dst x h = some (v, h')) :
    OpR G B E h h' P w v (convert src dst x') := by
  unfold convA at hc
  split at hc
  · rename_i u k kk n hu hd
    cases hc; cases hx
    refine ⟨E, _, w, ?_, Post.refl s, .int _ _⟩
    simp only [convert, Sem.run_bind, run_under hu, run_under hd, Result.andThen_ok]
    rfl
  · rename_i u k n hu hd
    cases hc; cases hx
    refine ⟨E, _, w, ?_, Post.refl s, .string _⟩
    simp only [convert, Sem.run_bind, run_under hu, run_under hd, Result.andThen_ok]
    rfl
  · rename_i u st hu hd
    cases hc; cases hx
    refine ⟨E, _, w, ?_, Post.refl s, .string _⟩
    simp only [convert, Sem.run_bind, run_under hu, run_under hd, Result.andThen_ok]
    rfl
  · rename_i u e st hu hd
    split at hc
    case isFalse => cases hc
    rename_i he
    obtain ⟨he1, he2⟩ := he
    cases hc; cases hx
    have hf : E h.length = none := hfree (by simp [newA])
    have hue := isU8_under he1
    let q : Question := .appendCap st.size 0 e
    let cap := q.cut (w.tape w.drawn q)
    have hcap : st.size ≤ cap := by simp only [cap, q, Question.cut]; omega
    let arr : Array Value := (st.data.map fun b => Value.int .u8 b.toNat) ++ Array.replicate (cap - st.size) (.int .u8 0)
    have hasz : arr.size = cap := by simp only [arr, Array.size_append, Array.size_map, Array.size_replicate]; show st.size + _ = _; omega
    let w1 : World := w.drew
    let w2 : World := (w1.alloc (.cells arr e)).freeze ⟨w.heap.size, arr.size, none⟩ 1
    have hheap : w2.heap = w.heap.push (.cells arr e (arr.size, arr.size + 1)) := by
      apply Array.ext_getElem?
      intro i
      show ((w.heap.push (Obj.cells arr e)).modify w.heap.size _)[i]? = _
      rw [Array.getElem?_modify, Array.getElem?_push, Array.getElem?_push]
      by_cases hi : i = w.heap.size
      · subst hi; simp
      · rw [if_neg (fun hh => hi hh.symm)]
        simp [hi]
    have hle := Env.put_le (n := h.length) ⟨w.heap.size, 0, arr.size, 1⟩ hf
    have hpost : Post G B E (E.put h.length ⟨w.heap.size, 0, arr.size, 1⟩) h (h ++ [some (.cells ⟨bytesV st, 1, false⟩)]) w w2 := by
      refine post_push s hf rfl hheap rfl rfl rfl ?_
      refine ⟨arr, e, (arr.size, arr.size + 1), by rw [hheap]; simp, rfl, rfl, fun j u hj => ?_, fun _ => .inr (by simp)⟩
      have hj' : j < (bytesV st).length := (List.getElem?_eq_some_iff.1 hj).1
      have hj2 : j < st.data.size := by simpa [bytesV] using hj'
      refine ⟨u, ?_, ?_⟩
      · simp only [arr, Nat.zero_add]
        rw [Array.getElem?_append_left (by simpa using hj2)]
        simpa [bytesV, hj2] using hj
      · simp only [bytesV, List.getElem?_map, Option.map_eq_some_iff] at hj
        obtain ⟨bb, _, rfl⟩ := hj
        exact .int _ _
    refine ⟨_, .slice (some ⟨w.heap.size, 0, none⟩) st.size cap, w2, ?_, hpost, new_sl hcap (by rw [hasz]; simp)⟩
    simp only [convert, Sem.run_bind, run_under hu, run_under hd, Result.andThen_ok, run_under hue, Conv.stringToBytes, run_choose]
    have hforced : (Question.appendCap st.size 0 e).forced = false := rfl
    simp only [hforced, Bool.false_eq_true, if_false, Result.andThen_ok, run_newRow, markStringish, Sem.run_bind, run_shape]
    have hshape : (({ heap := w.heap, tape := w.tape, drawn := w.drawn + 1, os := w.os, output := w.output } : World).alloc (.cells (Array.map (fun b => Value.int IntKind.u8 ↑b.toNat) st.data ++ Array.replicate ((Question.appendCap st.size 0 e).cut (w.tape w.drawn (Question.appendCap st.size 0 e)) - st.size) (Value.int IntKind.u8 0)) e)).shape? w.heap.size = some (e, arr.size) := by
      show (match (w.heap.push (Obj.cells arr e))[w.heap.size]? with | some (.cells c elem _) => some (elem, c.size) | _ => none) = _
      rw [Array.getElem?_push_size]
    rw [hshape]
    rfl
  · rename_i e a n m hu hd
    split at hc
    case isFalse => cases hc
    rename_i he
    split at hc
    case h_2 => cases hc
    rename_i l hl
    cases hc
    simp only [Option.bind_eq_some_iff] at hl
    obtain ⟨cs, hcs, hst⟩ := hl
    obtain ⟨ns, rfl, rfl⟩ := strOf_ints cs l hst
    obtain ⟨l', h1, h2, h3, a', m', rfl, ha'⟩ := sliceCells_sim (P := P) s hx hcs rfl
    replace h3 := h3 n (Nat.le_refl n) w rfl
    have hl' := LR.ints h1
    refine ⟨E, _, w, ?_, Post.refl s, .string _⟩
    rw [run_convert_bytes_string w src dst e _ _ _ hu (isU8_under he) hd]
    cases a' with
    | none =>
      have hn := ha' rfl
      have : ns = [] := by have := h2; rw [hn] at this; simpa using this
      subst this
      rfl
    | some ad =>
      have hlen : l'.take n = ns.map (Value.int .u8) := by
        rw [hl', List.take_of_length_le (by rw [h2]; omega)]
      simp only [Builtin.firstCells, Nat.mul_one, hlen] at h3
      rw [run_bytesToString w ad n m' ns h3, foldl_push]
      simp [ByteArray.empty, ByteArray.emptyWithCapacity]
      rfl
  · rename_i e' e b o n m hu hd
    split at hc
    case isFalse => cases hc
    rename_i he
    obtain ⟨rfl, he⟩ := he
    split at hc
    case h_2 => cases hc
    rename_i k hb
    split at hc
    case isFalse => cases hc
    rename_i hro
    cases hc
    have hx0 := hx
    obtain ⟨off, cap, en, rfl, hen⟩ : ∃ off cap en, x' = .slice (some ⟨en.blk, off, none⟩) n cap ∧ E b = some en := by
      cases hx with
      | sl he h1 h2 h3 => exact ⟨_, _, _, rfl, he⟩
    obtain ⟨c, el, fz, a1, a2, a3, a4, a5⟩ := s.obj b _ en (blkA_some hb) hen
    have hshape : w.shape? en.blk = some (el, c.size) := by simp [World.shape?, a1]
    have hheap : (w.freeze ⟨en.blk, c.size, none⟩ 1).heap = w.heap.modify en.blk fun
      | .cells c' elem (lo, hi) => .cells c' elem (if lo == hi then (c.size, c.size + 1) else (min lo c.size, max hi (c.size + 1)))
      | o => o := rfl
    have hget : (w.freeze ⟨en.blk, c.size, none⟩ 1).heap[en.blk]? = some (.cells c el (if fz.1 == fz.2 then (c.size, c.size + 1) else (min fz.1 c.size, max fz.2 (c.size + 1)))) := by
      rw [hheap, Array.getElem?_modify, if_pos rfl, a1]
      obtain ⟨lo, hi⟩ := fz
      rfl
    have hpost : Post G B E E h (h.set b (some (.cells k))) w (w.freeze ⟨en.blk, c.size, none⟩ 1) := by
      refine post_set s (blkA_some hb) hen (by simp [wrO, hro]) ?_ (fun x hx => ?_) rfl rfl rfl ?_ (by simp [wrO, hro])
      · rw [hheap]; simp
      · rw [hheap, Array.getElem?_modify, if_neg (fun hh => hx hh.symm)]
      · refine ⟨c, el, _, hget, a2, a3, a4, fun _ => ?_⟩
        have := a5 hro
        split
        · exact .inr (Nat.le_refl _)
        · rename_i hne
          simp only [beq_iff_eq] at hne
          simp only
          omega
    have hset : h.set b (some (.cells k)) = h := by
      have h1 := blkA_some hb
      apply List.ext_getElem?
      intro i
      by_cases hi : b = i
      · subst hi
        rw [List.getElem?_set_self (List.getElem?_eq_some_iff.1 h1).1, h1]
      · rw [List.getElem?_set_ne hi]
    rw [hset] at hpost
    refine ⟨E, _, _, ?_, hpost, hx0⟩
    have hbeq : (src == src) = true := by simp
    rw [hu] at hd
    cases hd
    simp only [convert, Sem.run_bind, run_under hu, Result.andThen_ok, hbeq, run_under (isU8_under he)]
    simp only [markStringish, Sem.run_bind, run_shape, Result.andThen_ok, hshape, run_freeze, Sem.run_pure]
  · cases hc
theorem range_sim (s : Sim G B E h w) (hfree : E h.length = none) {t : TypeId} {st : ByteArray} (hu : P.underlying t = some .string) :
    OpR G B E h (h ++ [some (.iter st 0)]) P w (.pointer (some ⟨h.length, 0, none⟩)) (Instr.range t (.string st)) := by
  have hpost := post_push (o := .iter st 0) (ob := .stringIter st 0) (e := ⟨w.heap.size, 0, 0, 0⟩) (w' := w.alloc (.stringIter st 0)) s hfree rfl rfl rfl rfl rfl ⟨rfl, Array.getElem?_push_size⟩
  refine ⟨_, .pointer (some ⟨w.heap.size, 0, none⟩), _, ?_, hpost, new_vr rfl⟩
  simp only [Instr.range, Sem.run_bind, run_under hu, Result.andThen_ok, Sem.run_pure, run_newObj]
  rfl
theorem next_sim (s : Sim G B E h w) {r : Nat} {x' : Value} {st : ByteArray} {pos : Nat} (hx : VR E (.pointer (some ⟨r, 0, none⟩)) x') (hr : h[r]? = some (some (.iter st pos))) (ty : TypeId) :
    if pos < st.size then OpR G B E h (h.set r (some (.iter st (pos + (Utf8.decode st pos).2)))) P w (.tuple #[.bool true, .int .i64 pos, .int .i32 (Utf8.decode st pos).1]) (Instr.next x' true ty)
    else OpR G B E h h P w (.tuple #[.bool false]) (Instr.next x' true ty) := by
  cases hx
  rename_i e he
  obtain ⟨hb0, hor⟩ : e.base = 0 ∧ w.heap[e.blk]? = some (.stringIter st pos) := s.obj r _ e hr he
  rw [hb0]
  have hg : ∀ {α : Type} (k : Obj → Sem α), ((getObj e.blk) >>= k).run P w = (k (.stringIter st pos)).run P w := by
    intro α k
    simp only [Sem.run_bind]
    show (Sem.run P (.getObj e.blk .pure) w).andThen _ = _
    simp only [Sem.run, hor, Result.andThen_ok]
  split
  · rename_i hp
    let w' : World := { w with heap := w.heap.setIfInBounds e.blk (.stringIter st (pos + (Utf8.decode st pos).2)) }
    have hlt : e.blk < w.heap.size := (Array.getElem?_eq_some_iff.1 hor).1
    have hpost : Post G B E E h (h.set r (some (.iter st (pos + (Utf8.decode st pos).2)))) w w' := by
      refine post_set s hr he rfl (by simp [w']) (fun x hx => ?_) rfl rfl rfl ?_ rfl
      · show (w.heap.setIfInBounds _ _)[x]? = _
        rw [Array.getElem?_setIfInBounds_ne (fun hh => hx hh.symm)]
      · refine ⟨hb0, ?_⟩
        show (w.heap.setIfInBounds _ _)[e.blk]? = _
        rw [Array.getElem?_setIfInBounds_self_of_lt hlt]
    refine ⟨E, _, w', ?_, hpost, VR.plain E 3 _ (by rfl)⟩
    unfold Instr.next
    refine (hg _).trans ?_
    simp only [if_pos hp, Sem.run_bind]
    show ((Sem.run P (.setObj e.blk _ (.pure ())) w).andThen _) = _
    simp only [Sem.run, hor, Result.andThen_ok]
    rfl
  · rename_i hp
    refine ⟨E, _, w, ?_, Post.refl s, VR.plain E 3 _ (by rfl)⟩
    unfold Instr.next
    refine (hg _).trans ?_
    simp only [if_neg hp]
    rfl
end
end Go.Abs
