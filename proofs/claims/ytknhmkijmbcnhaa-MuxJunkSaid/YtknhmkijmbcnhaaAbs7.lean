/- Abs7: new blocks, blocks that turn, loads and stores. Conditions: none. -/
import Derived.Test.YtknhmkijmbcnhaaAbs6
import Derived.Laws.Cells
set_option linter.unusedVariables false
set_option linter.unusedSimpArgs false
namespace Go.Abs
theorem list_getElem?_append_len {α : Type} (h : List α) (x : α) (id : Nat) {y : α} (hy : (h ++ [x])[id]? = some y) : (id < h.length ∧ h[id]? = some y) ∨ (id = h.length ∧ y = x) := by
  rw [List.getElem?_append] at hy
  split at hy
  · exact .inl ⟨by assumption, hy⟩
  · rename_i hn
    have : id - h.length = 0 := by
      rcases Nat.eq_zero_or_pos (id - h.length) with h0 | h0
      · exact h0
      · rw [List.getElem?_eq_none (by simp; omega)] at hy; cases hy
    rw [this] at hy
    simp at hy
    exact .inr ⟨by omega, hy.symm⟩
def Env.put (E : Env) (n : Nat) (e : Ent) : Env := fun id => if id = n then some e else E id
theorem Env.put_le {E : Env} {n : Nat} (e : Ent) (h : E n = none) : E.le (E.put n e) := by
  intro id x hx
  unfold Env.put
  split
  · rename_i he; subst he; rw [h] at hx; cases hx
  · exact hx
section
variable {G : Nat → Option Nat} {B : Nat} {E : Env} {h : AHeap} {w w' : World}
/-- A new block. -/
theorem post_push (s : Sim G B E h w) (hfree : E h.length = none) {o : AObj} {ob : Obj} {e : Ent} (he : e.blk = w.heap.size) (hw : w'.heap = w.heap.push ob)
    (hos : w'.os = w.os) (ht : w'.tape = w.tape) (hout : w'.output = w.output) (hor : OR (E.put h.length e) w' e o) :
    Post G B E (E.put h.length e) h (h ++ [some o]) w w' := by
  have hle := Env.put_le e hfree
  have old : ∀ x, x < w.heap.size → w'.heap[x]? = w.heap[x]? := fun x hx => by rw [hw, Array.getElem?_push, if_neg (by omega)]
  have hget : ∀ id x, (E.put h.length e) id = some x → id ≠ h.length → E id = some x := fun id x hx hn => by simpa [Env.put, hn] using hx
  have hlast : ∀ x, (E.put h.length e) h.length = some x → x = e := fun x hx => by simp [Env.put] at hx; exact hx.symm
  refine ⟨hle, by simp, fun id hn => ?_, ⟨?_, ?_, ?_, ?_, ?_⟩, hos, ht, hout, by rw [hw]; simp, fun x hx _ => old x hx, ?_, fun id x h1 h2 => ?_⟩
  · have : id = h.length := by
      by_cases hid : id = h.length
      · exact hid
      · exact absurd (by simp [Env.put, hid]) hn
    subst this
    simp
  · intro id o' e' h1 h2
    rcases list_getElem?_append_len h _ id h1 with ⟨hlt, h3⟩ | ⟨rfl, h3⟩
    · have h4 := hget id e' h2 (by omega)
      have h5 := s.obj id o' e' h3 h4
      exact h5.mono hle (old _ h5.lt)
    · cases h3; rw [hlast e' h2]; exact hor
  · intro id o' e' h1 h2 h3
    rcases list_getElem?_append_len h _ id h1 with ⟨hlt, h4⟩ | ⟨rfl, h4⟩
    · exact s.low id o' e' h4 (hget id e' h2 (by omega)) h3
    · rw [hlast e' h2, he]; exact s.base
  · intro i j oi oj ei ej hij h1 h2 h3 h4 h5
    rcases list_getElem?_append_len h _ i h1 with ⟨hlt, h6⟩ | ⟨rfl, h6⟩
    · have h7 := hget i ei h3 (by omega)
      rcases list_getElem?_append_len h _ j h2 with ⟨hlt', h8⟩ | ⟨rfl, h8⟩
      · exact s.apart i j oi oj ei ej hij h6 h8 h7 (hget j ej h4 (by omega)) h5
      · have := (s.obj i oi ei h6 h7).lt
        rw [hlast ej h4, he]; omega
    · rcases list_getElem?_append_len h _ j h2 with ⟨hlt', h8⟩ | ⟨rfl, h8⟩
      · have := (s.obj j oj ej h8 (hget j ej h4 (by omega))).lt
        rw [hlast ei h3, he]; omega
      · exact absurd rfl hij
  · rw [hw]; have := s.base; simp; omega
  · intro g id hg
    obtain ⟨x, h1, h2⟩ := s.glob g id hg
    exact ⟨x, hle _ _ h1, h2⟩
  · rintro x ⟨id, o', e', h1, h2, h3, h4⟩
    rcases list_getElem?_append_len h _ id h1 with ⟨hlt, h5⟩ | ⟨rfl, h5⟩
    · exact .inl ⟨id, o', e', h5, h2, hget id e' h3 (by omega), h4⟩
    · rw [hlast e' h3, he] at h4; exact .inr (by omega)
  · by_cases hid : id = h.length
    · subst hid; rw [hlast x h1, he]; exact .inr (Nat.le_refl _)
    · rw [hget id x h1 hid] at h2; cases h2
/-- A block that turns. -/
theorem post_set (s : Sim G B E h w) {b : Nat} {o o' : AObj} {e : Ent} (hb : h[b]? = some (some o)) (he : E b = some e) (hwr : wrO o = true)
    (hsz : w'.heap.size = w.heap.size) (hoth : ∀ x, x ≠ e.blk → w'.heap[x]? = w.heap[x]?) (hos : w'.os = w.os) (ht : w'.tape = w.tape) (hout : w'.output = w.output)
    (hor : OR E w' e o') (hwr' : wrO o' = true) : Post G B E E h (h.set b (some o')) w w' := by
  have hlt : b < h.length := by
    rcases Nat.lt_or_ge b h.length with h1 | h1
    · exact h1
    · rw [List.getElem?_eq_none h1] at hb; cases hb
  have hget : ∀ id x, (h.set b (some o'))[id]? = some (some x) → (id = b ∧ x = o') ∨ (id ≠ b ∧ h[id]? = some (some x)) := by
    intro id x hx
    rw [List.getElem?_set] at hx
    by_cases hid : b = id
    · subst hid; rw [if_pos rfl, if_pos hlt] at hx; cases hx; exact .inl ⟨rfl, rfl⟩
    · rw [if_neg hid] at hx; exact .inr ⟨fun e => hid e.symm, hx⟩
  refine ⟨Env.le.refl E, by simp, fun _ hn => absurd rfl hn, ⟨?_, ?_, ?_, by rw [hsz]; exact s.base, s.glob⟩, hos, ht, hout, by omega, fun x _ hx => ?_, ?_, fun id e h1 h2 => by rw [h2] at h1; cases h1⟩
  · intro id x e' h1 h2
    rcases hget id x h1 with ⟨rfl, rfl⟩ | ⟨hne, h3⟩
    · rw [he] at h2; cases h2; exact hor
    · exact (s.obj id x e' h3 h2).mono (Env.le.refl E) (hoth _ (fun hh => s.apart b id o x e e' (fun hh => hne hh.symm) hb h3 he h2 hwr hh.symm))
  · intro id x e' h1 h2 h3
    rcases hget id x h1 with ⟨rfl, rfl⟩ | ⟨hne, h4⟩
    · exact s.low id o e' hb h2 hwr
    · exact s.low id x e' h4 h2 h3
  · intro i j oi oj ei ej hij h1 h2 h3 h4 h5
    rcases hget i oi h1 with ⟨rfl, rfl⟩ | ⟨hne, h6⟩
    · rcases hget j oj h2 with ⟨rfl, rfl⟩ | ⟨hne', h7⟩
      · exact absurd rfl hij
      · exact s.apart i j o oj ei ej hij hb h7 h3 h4 hwr
    · rcases hget j oj h2 with ⟨rfl, rfl⟩ | ⟨hne', h7⟩
      · exact s.apart i j oi o ei ej hij h6 hb h3 h4 h5
      · exact s.apart i j oi oj ei ej hij h6 h7 h3 h4 h5
  · by_cases hxe : x = e.blk
    · exact absurd ⟨b, o, e, hb, hwr, he, hxe.symm⟩ hx
    · exact hoth x hxe
  · rintro x ⟨id, ob, e', h1, h2, h3, h4⟩
    rcases hget id ob h1 with ⟨rfl, rfl⟩ | ⟨hne, h5⟩
    · exact .inl ⟨id, o, e', hb, hwr, h3, h4⟩
    · exact .inl ⟨id, ob, e', h5, h2, h3, h4⟩
/-- A block that is taken out of use. -/
theorem sim_kill (s : Sim G B E h w) (b : Nat) : Sim G B E (h.set b none) w := by
  have hget : ∀ (id : Nat) x, (h.set b none)[id]? = some (some x) → h[id]? = some (some x) := by
    intro id x hx
    rw [List.getElem?_set] at hx
    by_cases hid : b = id
    · subst hid
      rw [if_pos rfl] at hx
      split at hx <;> cases hx
    · rwa [if_neg hid] at hx
  exact ⟨fun id o e h1 h2 => s.obj id o e (hget id o h1) h2, fun id o e h1 => s.low id o e (hget id o h1), fun i j oi oj ei ej hij h1 h2 => s.apart i j oi oj ei ej hij (hget i oi h1) (hget j oj h2), s.base, s.glob⟩
theorem post_kill (s : Sim G B E h w) (b : Nat) : Post G B E E h (h.set b none) w w := by
  refine ⟨Env.le.refl E, by simp, fun _ hn => absurd rfl hn, sim_kill s b, rfl, rfl, rfl, Nat.le_refl _, fun _ _ _ => rfl, ?_, fun id e h1 h2 => by rw [h2] at h1; cases h1⟩
  rintro x ⟨id, o, e, h1, h2⟩
  refine .inl ⟨id, o, e, ?_, h2⟩
  rw [List.getElem?_set] at h1
  by_cases hid : b = id
  · subst hid
    rw [if_pos rfl] at h1
    split at h1 <;> cases h1
  · rwa [if_neg hid] at h1
/-- A block that goes over into a new one, at its own place. -/
theorem post_move (s : Sim G B E h w) (hfree : E h.length = none) {b : Nat} {o o' : AObj} {e e' : Ent} (hb : h[b]? = some (some o)) (he : E b = some e) (hwr : wrO o = true) (he' : e'.blk = e.blk)
    (hsz : w'.heap.size = w.heap.size) (hoth : ∀ x, x ≠ e.blk → w'.heap[x]? = w.heap[x]?) (hos : w'.os = w.os) (ht : w'.tape = w.tape) (hout : w'.output = w.output)
    (hor : OR (E.put h.length e') w' e' o') (hwr' : wrO o' = true) : Post G B E (E.put h.length e') h (h.set b none ++ [some o']) w w' := by
  have hlt : b < h.length := by
    rcases Nat.lt_or_ge b h.length with h1 | h1
    · exact h1
    · rw [List.getElem?_eq_none h1] at hb; cases hb
  have hle := Env.put_le e' hfree
  have hlast : ∀ x, (E.put h.length e') h.length = some x → x = e' := fun x hx => by simp [Env.put] at hx; exact hx.symm
  have hget : ∀ id x y, (h.set b none ++ [some o'])[id]? = some (some x) → (E.put h.length e') id = some y → (id = h.length ∧ x = o' ∧ y = e') ∨ (id ≠ b ∧ id ≠ h.length ∧ h[id]? = some (some x) ∧ E id = some y) := by
    intro id x y hx hy
    rcases list_getElem?_append_len _ _ id hx with ⟨h1, h2⟩ | ⟨h1, h2⟩
    · rw [List.length_set] at h1
      rw [List.getElem?_set] at h2
      by_cases hid : b = id
      · subst hid; rw [if_pos rfl, if_pos hlt] at h2; cases h2
      · rw [if_neg hid] at h2
        exact .inr ⟨fun e => hid e.symm, by omega, h2, by simpa [Env.put, show id ≠ h.length by omega] using hy⟩
    · rw [List.length_set] at h1
      subst h1
      cases h2
      exact .inl ⟨rfl, rfl, hlast y hy⟩
  refine ⟨hle, by simp, fun id hn => ?_, ⟨?_, ?_, ?_, by rw [hsz]; exact s.base, ?_⟩, hos, ht, hout, by omega, fun x _ hx => ?_, ?_, fun id x h1 h2 => ?_⟩
  · have : id = h.length := by
      by_cases hid : id = h.length
      · exact hid
      · exact absurd (by simp [Env.put, hid]) hn
    subst this
    simp
  · intro id x y h1 h2
    rcases hget id x y h1 h2 with ⟨rfl, rfl, rfl⟩ | ⟨h3, h4, h5, h6⟩
    · exact hor
    · exact (s.obj id x y h5 h6).mono hle (hoth _ (fun hh => s.apart b id o x e y (fun hh => h3 hh.symm) hb h5 he h6 hwr hh.symm))
  · intro id x y h1 h2 h3
    rcases hget id x y h1 h2 with ⟨rfl, rfl, rfl⟩ | ⟨h4, h5, h6, h7⟩
    · rw [he']; exact s.low b o e hb he hwr
    · exact s.low id x y h6 h7 h3
  · intro i j oi oj ei ej hij h1 h2 h3 h4 h5
    rcases hget i oi ei h1 h3 with ⟨rfl, rfl, rfl⟩ | ⟨a1, a2, a3, a4⟩
    · rcases hget j oj ej h2 h4 with ⟨rfl, rfl, rfl⟩ | ⟨b1, b2, b3, b4⟩
      · exact absurd rfl hij
      · rw [he']; exact s.apart b j o oj e ej (fun hh => b1 hh.symm) hb b3 he b4 hwr
    · rcases hget j oj ej h2 h4 with ⟨rfl, rfl, rfl⟩ | ⟨b1, b2, b3, b4⟩
      · rw [he']; exact fun hh => s.apart b i o oi e ei (fun hh => a1 hh.symm) hb a3 he a4 hwr hh.symm
      · exact s.apart i j oi oj ei ej hij a3 b3 a4 b4 h5
  · intro g id hg
    obtain ⟨x, h1, h2⟩ := s.glob g id hg
    exact ⟨x, hle _ _ h1, h2⟩
  · by_cases hxe : x = e.blk
    · exact absurd ⟨b, o, e, hb, hwr, he, hxe.symm⟩ hx
    · exact hoth x hxe
  · rintro x ⟨id, ob, y, h1, h2, h3, h4⟩
    rcases hget id ob y h1 h3 with ⟨rfl, rfl, rfl⟩ | ⟨a1, a2, a3, a4⟩
    · exact .inl ⟨b, o, e, hb, hwr, he, by rw [← he']; exact h4⟩
    · exact .inl ⟨id, ob, y, a3, h2, a4, h4⟩
  · by_cases hid : id = h.length
    · subst hid; rw [hlast x h1, he']; exact .inl ⟨b, o, e, hb, hwr, he, rfl⟩
    · have : E id = some x := by simpa [Env.put, hid] using h1
      rw [this] at h2; cases h2
end
/-- Cells of a block, as the model's loads see them. -/
theorem cells_at {E : Env} {w : World} {e : Ent} {k : Blk} (hor : OR E w e (.cells k)) {o n : Nat} {l : List Value} (h : takeA k.cells o n = some l) :
    ∃ l', LR E l l' ∧ l'.length = n ∧ l.length = n ∧ ∀ (j : Nat) v, l'[j]? = some v → w.cell? ⟨e.blk, e.base + o + j, none⟩ = some v := by
  obtain ⟨c, el, fz, h1, h2, h3, h4, h5⟩ := hor
  unfold takeA at h
  split at h
  · rename_i hle
    cases h
    have hin : ∀ j, j < n → ∃ v v', k.cells[o + j]? = some v ∧ c[e.base + (o + j)]? = some v' ∧ VR E v v' := fun j hj => by
      have : o + j < k.cells.length := by omega
      obtain ⟨v', p, q⟩ := h4 (o + j) _ (List.getElem?_eq_getElem this)
      exact ⟨_, v', List.getElem?_eq_getElem this, p, q⟩
    have hsz : n = 0 ∨ e.base + o + n ≤ c.size := by
      by_cases hn : n = 0
      · exact .inl hn
      · obtain ⟨v, v', _, p, _⟩ := hin (n - 1) (by omega)
        have := (Array.getElem?_eq_some_iff.1 p).1
        exact .inr (by omega)
    have hlen : ((c.toList.drop (e.base + o)).take n).length = n := by
      rcases hsz with h0 | h0
      · subst h0; simp
      · simp; omega
    refine ⟨(c.toList.drop (e.base + o)).take n, ⟨?_, ?_⟩, hlen, by simp; omega, ?_⟩
    · rw [hlen]; simp; omega
    · intro j v hv
      rw [List.getElem?_take] at hv ⊢
      split at hv
      · rename_i hj
        rw [if_pos hj]
        rw [List.getElem?_drop] at hv ⊢
        obtain ⟨u, u', p, q, r⟩ := hin j hj
        rw [p] at hv; cases hv
        exact ⟨u', by rw [Nat.add_assoc]; simpa using q, r⟩
      · cases hv
    · intro j v hv
      rw [List.getElem?_take] at hv
      split at hv
      · rw [List.getElem?_drop] at hv
        simp only [World.cell?, h1]
        simpa using hv
      · cases hv
  · cases h
theorem blkA_some {h : AHeap} {b : Nat} {k : Blk} (hb : blkA h b = some k) : h[b]? = some (some (.cells k)) := by
  unfold blkA at hb
  split at hb
  · rename_i hh; cases hb; exact hh
  · cases hb
section
variable {G : Nat → Option Nat} {B : Nat} {E : Env} {h : AHeap} {w : World} {P : Program}
theorem load_sim (s : Sim G B E h w) {t : TypeId} {x x' v : Value} (hx : VR E x x') (hl : loadA P h t x = some v) :
    ∃ v', (Instr.loadAt t x').run P w = .ok v' w ∧ VR E v v' := by
  unfold loadA at hl
  split at hl
  · rename_i b o
    cases hx
    rename_i e he
    split at hl
    · rename_i k n hb ha hs
      simp only [Option.map_eq_some_iff] at hl
      obtain ⟨l, h1, rfl⟩ := hl
      obtain ⟨l', h2, h3, _, h4⟩ := cells_at (s.obj b _ e (blkA_some hb) he) h1
      refine ⟨.agg l'.toArray, ?_, VR.agg' h2⟩
      have hr := run_loadCells_list (P := P) w ⟨e.blk, e.base + o, none⟩ l' (fun j v hv => by rw [addr_add]; exact h4 j v hv)
      rw [h3] at hr
      simp only [Instr.loadAt, Instr.sureAddr, Sem.run_bind, Sem.run_pure, Result.andThen_ok, loadVar, run_agg ha, if_true, run_size hs, hr]
    · rename_i k n hb ha hs
      obtain ⟨c, el, fz, h1, h2, h3, h4, h5⟩ := s.obj b _ e (blkA_some hb) he
      obtain ⟨v', p, q⟩ := h4 o v hl
      refine ⟨v', ?_, q⟩
      have hc : w.cell? ⟨e.blk, e.base + o, none⟩ = some v' := by simp only [World.cell?, h1]; simpa using p
      simp only [Instr.loadAt, Instr.sureAddr, Sem.run_bind, Sem.run_pure, Result.andThen_ok, loadVar, run_agg ha, Bool.false_eq_true, if_false, run_load, hc]
    · cases hl
  · cases hl
end
end Go.Abs
