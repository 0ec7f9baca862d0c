/- Abs9: slices and strings: made, cut, converted, appended to, copied. Conditions: none. -/
import Derived.Test.YtknhmkijmbcnhaaAbs8
import Derived.Laws.BytesString
import Derived.Laws.Append
set_option linter.unusedVariables false
set_option linter.unusedSimpArgs false
namespace Go.Abs
section
variable {G : Nat → Option Nat} {B : Nat} {E : Env} {h h' : AHeap} {w : World} {P : Program}
def OpR (G : Nat → Option Nat) (B : Nat) (E : Env) (h h' : AHeap) (P : Program) (w : World) (v : Value) (m : Sem Value) : Prop :=
  ∃ E' v' w', m.run P w = .ok v' w' ∧ Post G B E E' h h' w w' ∧ VR E' v v'
theorem new_vr {e : Ent} (he : e.base = 0) : VR (E.put h.length e) (.pointer (some ⟨h.length, 0, none⟩)) (.pointer (some ⟨e.blk, 0, none⟩)) := by
  have := VR.ptr (E := E.put h.length e) (b := h.length) (o := 0) (e := e) (by simp [Env.put])
  rw [he] at this
  exact this
theorem alloc_sim (s : Sim G B E h w) (hfree : E h.length = none) {t : TypeId} {z : List Value} {esz : Nat} (hz : zeroA P t = some z) :
    OpR G B E h (newA h z esz).2 P w (.pointer (some ⟨h.length, 0, none⟩)) (Instr.alloc t true (.tuple #[])) := by
  obtain ⟨zv, h1, h2, h3⟩ := run_zero hz w
  have hp := row_sim (el := t) (esz := esz) s hfree (cells := z) (c := zv.cells) (LR.to_arr (by rw [h2]; exact LR.plain E 3 z h3)) (d0 := w) rfl rfl rfl rfl
  refine ⟨_, .pointer (some ⟨w.heap.size, 0, none⟩), _, ?_, hp, new_vr rfl⟩
  simp only [Instr.alloc, Sem.run_bind, h1, Result.andThen_ok, newVar, run_newRow, Sem.run_pure]
theorem box_sim (s : Sim G B E h w) (hfree : E h.length = none) {t : TypeId} {esz : Nat} {v v' : Value} (hv : VR E v v') :
    OpR G B E h (newA h v.cells.toList esz).2 P w (.pointer (some ⟨h.length, 0, none⟩)) (Instr.box t v') := by
  have hp := row_sim (el := t) (esz := esz) s hfree (cells := v.cells.toList) (c := v'.cells) (LR.to_arr hv.cells) (d0 := w) rfl rfl rfl rfl
  refine ⟨_, .pointer (some ⟨w.heap.size, 0, none⟩), _, ?_, hp, new_vr rfl⟩
  simp only [Instr.box, Sem.run_bind, Result.andThen_ok, newVar, run_newRow, Sem.run_pure]
theorem new_sl {w0 csz esz n cap : Nat} (h1 : n ≤ cap) (h2 : cap * esz ≤ csz) :
    VR (E.put h.length ⟨w0, 0, csz, esz⟩) (.slice (some ⟨h.length, 0, none⟩) n n) (.slice (some ⟨w0, 0, none⟩) n cap) :=
  VR.sl (E := E.put h.length ⟨w0, 0, csz, esz⟩) (e := ⟨w0, 0, csz, esz⟩) (by simp [Env.put]) h1 (fun _ => by simpa using h2) (fun _ => rfl)
theorem fill_size (place : Nat → Option (Nat × Nat)) : ∀ (ps : List (Nat × Value)) (cs rs : Array Value), Instr.fill place cs ps = some rs → rs.size = cs.size
  | [], cs, rs, h => by simp only [Instr.fill, Option.some.injEq] at h; rw [h]
  | (i, v) :: ps, cs, rs, h => by
    simp only [Instr.fill] at h
    cases hp : place i with
    | none => simp [hp] at h
    | some os =>
      obtain ⟨off, size⟩ := os
      simp only [hp] at h
      split at h
      · cases h
      · rw [fill_size place ps _ rs h]
        have key : ∀ (us : List (Value × Nat)) (c : Array Value), (us.foldl (fun cs (x : Value × Nat) => cs.setIfInBounds (off + x.2) x.1) c).size = c.size := by
          intro us
          induction us with
          | nil => intro c; rfl
          | cons u us ih => intro c; simp only [List.foldl_cons]; rw [ih]; simp
        have e : ∀ (xs c : Array Value), xs.zipIdx.foldl (fun cs (x : Value × Nat) => cs.setIfInBounds (off + x.2) x.1) c = xs.toList.zipIdx.foldl (fun cs (x : Value × Nat) => cs.setIfInBounds (off + x.2) x.1) c := by
          intro xs c; rw [← Array.foldl_toList, Array.toList_zipIdx]
        exact (congrArg Array.size (e v.cells cs)).trans (key _ _)
theorem buildSlice_sim (s : Sim G B E h w) (hfree : E h.length = none) {t : TypeId} {len : Nat} {ps qs : List (Nat × Value)} {v : Value} (hp : PR E ps qs) (hb : buildSliceA P t len ps h = some (v, h')) :
    OpR G B E h h' P w v (Instr.buildSlice t len qs.toArray) := by
  unfold buildSliceA at hb
  split at hb
  case h_2 => cases hb
  rename_i e hu
  split at hb
  case h_2 => cases hb
  rename_i size z hs hz
  split at hb
  case isFalse => cases hb
  rename_i hc
  obtain ⟨hc1, hc2, hc3⟩ := hc
  split at hb
  case h_2 => cases hb
  rename_i cells hf
  split at hb
  case isFalse => cases hb
  cases hb
  obtain ⟨zv, h1, h2, h3⟩ := run_zero hz w
  have hrow : ((Array.range (len * size)).map (zv.cells[· % zv.cells.size]!)).toList = repCells z len := by
    rw [← hc2]; exact zero_row_all z zv.cells h2 (by omega) len
  obtain ⟨ds, h4, h5⟩ := fill_sim _ ps qs _ _ cells hp (by rw [hrow]; exact LR.plain E 3 _ (plain_rep h3 len)) hf
  have hsz : ds.size = len * size := by rw [fill_size _ _ _ _ h4]; simp
  have hpost := row_sim (el := e) (esz := size) s hfree (cells := cells.toList) (c := ds) (LR.to_arr h5) (d0 := w) rfl rfl rfl rfl
  refine ⟨_, .slice (some ⟨w.heap.size, 0, none⟩) len len, _, ?_, hpost, new_sl (Nat.le_refl _) (by rw [hsz]; exact Nat.le_refl _)⟩
  simp only [Instr.buildSlice, Sem.run_bind, run_under hu, Result.andThen_ok, run_size hs]
  rw [if_neg (by omega)]
  have hE : len * size = 0 → ∀ f g : Nat → Value, (Array.range (len * size)).map f = (Array.range (len * size)).map g := by intro h0 f g; rw [h0]; simp
  split
  · rename_i h0
    simp only [Sem.run_bind, Sem.run_pure, Result.andThen_ok]
    rw [hE h0 _ (fun x => zv.cells[x % zv.cells.size]!), h4]
    simp only [Sem.run_bind, run_newRow, Result.andThen_ok, Sem.run_pure]
  · simp only [Sem.run_bind, h1, Sem.run_pure, Result.andThen_ok]
    rw [h4]
    simp only [Sem.run_bind, run_newRow, Result.andThen_ok, Sem.run_pure]
theorem makeSlice_sim (s : Sim G B E h w) (hfree : E h.length = none) {t : TypeId} {l m l' m' v : Value} (hl : VR E l l') (hm : VR E m m') (hb : makeSliceA P t l m h = some (v, h')) :
    OpR G B E h h' P w v (Instr.makeSlice t l' m') := by
  unfold makeSliceA at hb
  split at hb
  case h_2 => cases hb
  rename_i e k1 n k2 q hu
  split at hb
  case h_2 => cases hb
  rename_i size z by_ hs hz hby
  split at hb
  case isFalse => cases hb
  rename_i hc
  obtain ⟨c1, c2, c3, c4, c5, c6⟩ := hc
  cases hb; cases hl; cases hm
  obtain ⟨zv, h1, h2, h3⟩ := run_zero hz w
  simp only [bytesA, Option.map_eq_some_iff] at hby
  obtain ⟨info, hi, hb2⟩ := hby
  have hwq : IntKind.i64.wrap q = q := by unfold IntKind.wrap; simp only [IntKind.bits, IntKind.signed, Bool.true_and]; split <;> simp_all <;> omega
  have hwn : IntKind.i64.wrap n = n := by unfold IntKind.wrap; simp only [IntKind.bits, IntKind.signed, Bool.true_and]; split <;> simp_all <;> omega
  have hsz : ((Array.range (q.toNat * size)).map (zv.cells[· % zv.cells.size]!)).size = q.toNat * size := by simp
  have hpost := row_sim (el := e) (esz := size) s hfree (cells := repCells z n.toNat) (c := (Array.range (q.toNat * size)).map (zv.cells[· % zv.cells.size]!)) (fun j u hj => by
    have hj' : j < n.toNat * z.length := by
      rcases Nat.lt_or_ge j (n.toNat * z.length) with h' | h'
      · exact h'
      · rw [List.getElem?_eq_none (by rw [repCells_length]; exact h')] at hj; cases hj
    have hle : n.toNat * z.length ≤ q.toNat * size := by rw [c5]; exact Nat.mul_le_mul_right _ (by omega)
    rw [repCells_get z (by omega) _ _ hj'] at hj
    refine ⟨u, by rw [zero_row z zv.cells h2 (by omega) _ j (by omega)]; exact hj, VR.plain E 3 u (List.all_eq_true.1 h3 _ (List.mem_of_getElem? hj))⟩) (d0 := w) rfl rfl rfl rfl
  refine ⟨_, .slice (some ⟨w.heap.size, 0, none⟩) n.toNat q.toNat, _, ?_, hpost, new_sl (by omega) (by rw [hsz]; exact Nat.le_refl _)⟩
  have hbytes : ¬ ((info.bytes : Int) * q > 2 ^ 48) := by
    rw [hb2, Int.mul_comm]; simp; omega
  simp only [Instr.makeSlice, Sem.run_bind, run_under hu, Result.andThen_ok, asInt, asIntOf, Sem.run_pure, typeInfo, run_program, hi, hwq, hwn]
  have hcond : ((decide (q < 0) || decide ((info.bytes : Int) * q > 2 ^ 48) || decide (n < 0) || decide (n > q)) = true) = False := by
    simp only [Bool.or_eq_true, decide_eq_true_eq, eq_iff_iff, iff_false]
    omega
  simp only [hcond, if_false, Sem.run_bind, run_askRoom, Result.andThen_ok, run_size hs, Sem.run_pure]
  have hE : q.toNat * size = 0 → ∀ f g : Nat → Value, (Array.range (q.toNat * size)).map f = (Array.range (q.toNat * size)).map g := by intro h0 f g; rw [h0]; simp
  split
  · rename_i h0
    simp only [Sem.run_bind, Sem.run_pure, Result.andThen_ok]
    rw [hE h0 _ (fun x => zv.cells[x % zv.cells.size]!)]
    simp only [run_newRow, Result.andThen_ok]
  · simp only [Sem.run_bind, h1, Sem.run_pure, Result.andThen_ok, run_newRow]
end
end Go.Abs
