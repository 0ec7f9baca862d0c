/- Abs8: stores, new variables, slices that are made and cut, conversions. Conditions: none. -/
import Derived.Test.YtknhmkijmbcnhaaAbs7
set_option linter.unusedVariables false
set_option linter.unusedSimpArgs false
namespace Go.Abs
theorem putCells_length : ∀ (vs : List Value) (l : List Value) (o : Nat), (putCells l o vs).length = l.length
  | [], l, o => rfl
  | v :: vs, l, o => by simp only [putCells]; rw [putCells_length vs]; simp
def Shift (E : Env) (base : Nat) (l l' : List Value) : Prop := ∀ (j : Nat) v, l[j]? = some v → ∃ v', l'[base + j]? = some v' ∧ VR E v v'
theorem Shift.put {E : Env} {base : Nat} : ∀ (vs vs' l l' : List Value) (o : Nat), Shift E base l l' → LR E vs vs' → o + vs.length ≤ l.length → Shift E base (putCells l o vs) (putCells l' (base + o) vs')
  | [], vs', l, l', o, h, hv, _ => by
    have : vs' = [] := by have := hv.1; cases vs' with | nil => rfl | cons _ _ => simp at this
    subst this; exact h
  | v :: vs, vs', l, l', o, h, hv, hle => by
    obtain ⟨v', vs', rfl, h1, h2⟩ := hv.cases
    simp only [putCells]
    simp only [List.length_cons] at hle
    rw [Nat.add_assoc]
    refine Shift.put vs vs' _ _ (o + 1) ?_ h2 (by simp; omega)
    intro j u hu
    rw [List.getElem?_set] at hu
    by_cases hj : o = j
    · subst hj
      rw [if_pos rfl] at hu
      split at hu
      · cases hu
        obtain ⟨x, hx, _⟩ := h o _ (List.getElem?_eq_getElem (by omega))
        have hlt : base + o < l'.length := (List.getElem?_eq_some_iff.1 hx).1
        exact ⟨v', by rw [List.getElem?_set, if_pos rfl, if_pos hlt], h1⟩
      · cases hu
    · rw [if_neg hj] at hu
      obtain ⟨x, hx, hr⟩ := h j u hu
      exact ⟨x, by rw [List.getElem?_set, if_neg (by omega)]; exact hx, hr⟩
theorem one_eq (v : Value) : v.oneCell' = oneCellA v := by cases v <;> rfl
theorem run_stores (P : Program) (b : Nat) : ∀ (vs : List Value) (o i : Nat) (w : World) (c : Array Value) (el : TypeId) (fz : Nat × Nat), w.heap[b]? = some (.cells c el fz) → (vs = [] ∨ o + i + vs.length ≤ c.size) →
    (∀ j, j < c.size → ¬ (fz.1 ≤ j ∧ j < fz.2)) → vs.all oneCellA = true →
    ∃ w', (storeCells ⟨b, o, none⟩ vs i).run P w = .ok () w' ∧ (∃ d : Array Value, w'.heap[b]? = some (.cells d el fz) ∧ d.toList = putCells c.toList (o + i) vs) ∧ w'.heap.size = w.heap.size ∧
      (∀ x, x ≠ b → w'.heap[x]? = w.heap[x]?) ∧ w'.os = w.os ∧ w'.tape = w.tape ∧ w'.output = w.output
  | [], o, i, w, c, el, fz, hb, _, _, _ => ⟨w, rfl, ⟨c, hb, rfl⟩, rfl, fun _ _ => rfl, rfl, rfl, rfl⟩
  | v :: vs, o, i, w, c, el, fz, hb, hle, hfz, h1 => by
    have hle' : o + i + (vs.length + 1) ≤ c.size := by rcases hle with h | h; · cases h
                                                       · simpa using h
    simp only [List.all_cons, Bool.and_eq_true] at h1
    have hlt : o + i < c.size := by omega
    have hcell : w.cell? ⟨b, o + i, none⟩ = some c[o + i] := by simp [World.cell?, hb, hlt]
    have hfr : w.frozen? ⟨b, o + i, none⟩ = false := by
      have := hfz (o + i) hlt
      simp only [World.frozen?, hb, Bool.and_eq_false_iff, decide_eq_false_iff_not]
      omega
    have hheap : (w.setCell ⟨b, o + i, none⟩ v).heap[b]? = some (.cells (c.setIfInBounds (o + i) v) el fz) := by
      simp [World.setCell, Array.getElem?_modify, hb]
    have hst : (store ⟨b, o + i, none⟩ v).run P w = .ok () (w.setCell ⟨b, o + i, none⟩ v) := by
      rw [run_store P w _ v _ (by rw [one_eq]; exact h1.1)]
      simp only [hcell, hfr]
      rfl
    obtain ⟨w', h2, ⟨d, h3, h4⟩, h5, h6, h7, h8, h9⟩ := run_stores P b vs o (i + 1) _ _ el fz hheap (.inr (by simp; omega)) (by simpa using hfz) h1.2
    refine ⟨w', ?_, ⟨d, h3, by rw [h4]; simp [putCells, Nat.add_assoc]⟩, by rw [h5]; simp, fun x hx => ?_, h7, h8, h9⟩
    · simp only [storeCells, Sem.run_bind, addr_add, hst, Result.andThen_ok, h2]
    · rw [h6 x hx]
      simp only [World.setCell, Array.getElem?_modify]
      rw [if_neg (fun hh => hx hh.symm)]
section
variable {G : Nat → Option Nat} {B : Nat} {E : Env} {h h' : AHeap} {w : World} {P : Program}
theorem LR.allOne {xs ys : List Value} (hl : LR E xs ys) : ys.all oneCellA = xs.all oneCellA := by
  rw [Bool.eq_iff_iff, List.all_eq_true, List.all_eq_true]
  constructor
  · intro h1 x hx
    obtain ⟨i, hi⟩ := List.getElem?_of_mem hx
    obtain ⟨y, h2, h3⟩ := hl.2 i x hi
    rw [← h3.one]; exact h1 y (List.mem_of_getElem? h2)
  · intro h1 y hy
    obtain ⟨i, hi⟩ := List.getElem?_of_mem hy
    have hlt : i < xs.length := by rw [hl.1]; exact (List.getElem?_eq_some_iff.1 hi).1
    obtain ⟨y', h2, h3⟩ := hl.2 i _ (List.getElem?_eq_getElem hlt)
    rw [hi] at h2; cases h2
    rw [h3.one]; exact h1 _ (List.getElem_mem hlt)
theorem write_sim (s : Sim G B E h w) {b o : Nat} {e : Ent} {vs vs' : List Value} (he : E b = some e) (hv : LR E vs vs') (hw : writeA h b o vs = some h') :
    ∃ w', (storeCells ⟨e.blk, e.base + o, none⟩ vs').run P w = .ok () w' ∧ Post G B E E h h' w w' := by
  unfold writeA at hw
  split at hw
  · rename_i k hb
    split at hw
    · rename_i hc
      obtain ⟨hro, hle, hone⟩ := hc
      cases hw
      have hbs := blkA_some hb
      obtain ⟨c, el, fz, h1, h2, h3, h4, h5⟩ := s.obj b _ e hbs he
      have hsh : Shift E e.base k.cells c.toList := fun j v hj => let ⟨v', p, q⟩ := h4 j v hj; ⟨v', by simpa using p, q⟩
      have hfit : vs' = [] ∨ e.base + o + 0 + vs'.length ≤ c.size := by
        by_cases hn : vs' = []
        · exact .inl hn
        · have hpos : 0 < vs.length := by rw [hv.1]; exact List.length_pos_iff.2 hn
          have hlt : o + vs.length - 1 < k.cells.length := by omega
          obtain ⟨v', p, _⟩ := h4 _ _ (List.getElem?_eq_getElem hlt)
          have := (Array.getElem?_eq_some_iff.1 p).1
          have := hv.1
          exact .inr (by omega)
      obtain ⟨w', r1, ⟨d, r2, r3⟩, r4, r5, r6, r7, r8⟩ := run_stores P e.blk vs' (e.base + o) 0 w c el fz h1 hfit (fzOld (h5 hro)) (by rw [hv.allOne]; exact hone)
      refine ⟨w', r1, post_set s hbs he (by simp [wrO, hro]) r4 r5 r6 r7 r8 ?_ (by simp [wrO, hro])⟩
      have hsz : d.size = c.size := by rw [← Array.length_toList, r3, putCells_length]; simp
      refine ⟨d, el, fz, r2, by rw [hsz]; exact h2, h3, fun j v hj => ?_, fun _ => by have := h5 hro; omega⟩
      obtain ⟨v', p, q⟩ := Shift.put vs vs' k.cells c.toList o hsh hv hle j v hj
      refine ⟨v', ?_, q⟩
      rw [← Array.getElem?_toList, r3]
      simpa using p
    · cases hw
  · cases hw
theorem store_sim (s : Sim G B E h w) {t : TypeId} {x x' v v' : Value} (hx : VR E x x') (hv : VR E v v') (hs : storeA P h t x v = some h') :
    ∃ w', (Instr.storeAt t x' v').run P w = .ok () w' ∧ Post G B E E h h' w w' := by
  unfold storeA at hs
  split at hs
  · rename_i b o
    split at hs
    · rename_i hsz
      cases hx
      rename_i e he
      obtain ⟨w', h1, h2⟩ := write_sim (P := P) s he hv.cells hs
      refine ⟨w', ?_, h2⟩
      simp only [Instr.storeAt, Instr.sureAddr, Sem.run_bind, Sem.run_pure, Result.andThen_ok, storeVar, run_size hsz]
      rw [if_neg (by rw [hv.csize]; simp)]
      exact h1
    · cases hs
  · cases hs
/-- A new row of cells. -/
theorem row_sim (s : Sim G B E h w) (hfree : E h.length = none) {cells : List Value} {esz : Nat} {c : Array Value} {el : TypeId} (hc : ∀ (j : Nat) v, cells[j]? = some v → ∃ v', c[j]? = some v' ∧ VR E v v') {d0 : World}
    (hd : d0.heap = w.heap) (hos : d0.os = w.os) (ht : d0.tape = w.tape) (hout : d0.output = w.output) :
    Post G B E (E.put h.length ⟨w.heap.size, 0, c.size, esz⟩) h (h ++ [some (.cells ⟨cells, esz, false⟩)]) w (d0.alloc (.cells c el)) := by
  have hle := Env.put_le ⟨w.heap.size, 0, c.size, esz⟩ hfree
  refine post_push (ob := .cells c el) s hfree rfl (by show d0.heap.push _ = _; rw [hd]) hos ht hout ?_
  refine ⟨c, el, (0, 0), by show (d0.heap.push _)[_]? = _; rw [hd]; simp, rfl, rfl, fun j v hj => ?_, fun _ => .inl rfl⟩
  obtain ⟨v', p, q⟩ := hc j v hj
  exact ⟨v', by simpa using p, q.mono hle⟩
theorem LR.to_arr {cells : List Value} {c : Array Value} (hl : LR E cells c.toList) : ∀ (j : Nat) v, cells[j]? = some v → ∃ v', c[j]? = some v' ∧ VR E v v' :=
  fun j v hj => let ⟨v', p, q⟩ := hl.2 j v hj; ⟨v', by simpa using p, q⟩
theorem run_newRow (w : World) (el : TypeId) (c : Array Value) : (newRow el c).run P w = .ok ⟨w.heap.size, 0, none⟩ (w.alloc (.cells c el)) := by
  simp only [newRow, Sem.run_bind, run_newObj, Result.andThen_ok, Sem.run_pure]; rfl
theorem repCells_get (z : List Value) (hz : 0 < z.length) : ∀ (n i : Nat), i < n * z.length → (repCells z n)[i]? = z[i % z.length]?
  | 0, i, h => by simp at h
  | n + 1, i, h => by
    simp only [repCells]
    rw [List.getElem?_append]
    split
    · rename_i hi; rw [Nat.mod_eq_of_lt hi]
    · rename_i hi
      have h1 : i - z.length < n * z.length := by rw [Nat.add_mul, Nat.one_mul] at h; omega
      rw [repCells_get z hz n _ h1, ← Nat.mod_eq_sub_mod (by omega)]
theorem repCells_length (z : List Value) : ∀ n, (repCells z n).length = n * z.length
  | 0 => by simp [repCells]
  | n + 1 => by simp [repCells, repCells_length z n, Nat.add_mul, Nat.add_comm]
/-- The model's row of zeros. -/
theorem zero_row (z : List Value) (zc : Array Value) (hzc : zc.toList = z) (hz : 0 < z.length) (N i : Nat) (hi : i < N) : ((Array.range N).map (zc[· % zc.size]!))[i]? = z[i % z.length]? := by
  have hs : zc.size = z.length := by rw [← hzc]; simp
  have hlt : i % zc.size < zc.size := Nat.mod_lt _ (by omega)
  simp only [Array.getElem?_map, Array.getElem?_range, hi, if_true, Option.map_some]
  rw [getElem!_pos zc (i % zc.size) hlt, ← hs, ← hzc]
  simp [hlt]
theorem zero_row_all (z : List Value) (zc : Array Value) (hzc : zc.toList = z) (hz : 0 < z.length) (n : Nat) : ((Array.range (n * z.length)).map (zc[· % zc.size]!)).toList = repCells z n := by
  apply List.ext_getElem?
  intro i
  by_cases hi : i < n * z.length
  · rw [Array.getElem?_toList, zero_row z zc hzc hz _ i hi, repCells_get z hz n i hi]
  · rw [List.getElem?_eq_none (by simp; omega), List.getElem?_eq_none (by rw [repCells_length]; omega)]
theorem plain_rep {z : List Value} (hz : z.all (plainV 3) = true) : ∀ n, (repCells z n).all (plainV 3) = true
  | 0 => rfl
  | n + 1 => by simp only [repCells, List.all_append, hz, plain_rep hz n, Bool.and_self]
end
end Go.Abs
