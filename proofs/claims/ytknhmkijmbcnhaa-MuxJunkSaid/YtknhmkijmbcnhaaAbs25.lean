/- Abs25: how a law's arguments come into the abstract heap, and what a call of the law then tells of the model. Conditions: none. -/
import Derived.Test.YtknhmkijmbcnhaaAbs24
import Derived.WalkKit
import Derived.ProofKit
import Derived.OpenShut
import Derived.ShutString
import Derived.ChangeOld
import Derived.SizedLaws
set_option linter.unusedVariables false
set_option linter.unusedSimpArgs false
set_option maxRecDepth 100000
namespace Go.Abs
open Go.WideShapes Go.ChangeShapes
/-- Cells that hold a value without addresses. -/
inductive Flat (P : Program) : TypeId → List Value → Prop
  | bool {t : TypeId} (b : Bool) (h : P.underlying t = some .bool) : Flat P t [.bool b]
  | int {t : TypeId} {k : IntKind} (n : Int) (h : P.underlying t = some (.int k)) (h1 : (Lit.int k n).wf = true) : Flat P t [.int k n]
  | str {t : TypeId} (s : ByteArray) (h : P.underlying t = some .string) (h1 : s.size ≤ 140737488351232) : Flat P t [.string s]
  | struct {t : TypeId} {fs : Array Field} {cs : List Value} (h : P.underlying t = some (.struct fs)) (h1 : cs.length = P.cellsOf t)
      (h2 : ∀ (i : Nat) (f : Field), fs[i]? = some f → Flat P f.type ((cs.drop f.offset).take (P.cellsOf f.type))) : Flat P t cs
theorem Flat.int_inv {P : Program} {t : TypeId} {k : IntKind} {cs : List Value} (h : Flat P t cs) (hu : P.underlying t = some (.int k)) : ∃ n, cs = [.int k n] ∧ (Lit.int k n).wf = true := by
  cases h with
  | bool b h => rw [hu] at h; cases h
  | int n h h1 => rw [hu] at h; cases h; exact ⟨n, rfl, h1⟩
  | str s h h1 => rw [hu] at h; cases h
  | struct h h1 h2 => rw [hu] at h; cases h
theorem Flat.str_inv {P : Program} {t : TypeId} {cs : List Value} (h : Flat P t cs) (hu : P.underlying t = some .string) : ∃ s, cs = [.string s] ∧ s.size ≤ 140737488351232 := by
  cases h with
  | bool b h => rw [hu] at h; cases h
  | int n h h1 => rw [hu] at h; cases h
  | str s h h1 => exact ⟨s, rfl, h1⟩
  | struct h h1 h2 => rw [hu] at h; cases h
theorem Flat.bool_inv {P : Program} {t : TypeId} {cs : List Value} (h : Flat P t cs) (hu : P.underlying t = some .bool) : ∃ b, cs = [.bool b] := by
  cases h with
  | bool b h => exact ⟨b, rfl⟩
  | int n h h1 => rw [hu] at h; cases h
  | str s h h1 => rw [hu] at h; cases h
  | struct h h1 h2 => rw [hu] at h; cases h
theorem Flat.struct_inv {P : Program} {t : TypeId} {fs : Array Field} {cs : List Value} (h : Flat P t cs) (hu : P.underlying t = some (.struct fs)) : cs.length = P.cellsOf t ∧ ∀ (i : Nat) (f : Field), fs[i]? = some f → Flat P f.type ((cs.drop f.offset).take (P.cellsOf f.type)) := by
  cases h with
  | bool b h => rw [hu] at h; cases h
  | int n h h1 => rw [hu] at h; cases h
  | str s h h1 => rw [hu] at h; cases h
  | struct h h1 h2 => rw [hu] at h; cases h; exact ⟨h1, h2⟩
/-- Types without addresses, closed under parts. -/
def flatTypes (P : Program) (S : List TypeId) : Bool := S.all fun t =>
  match P.underlying t with
  | some .bool => true
  | some (.int _) => true
  | some .string => true
  | some (.struct fs) => fs.toList.all fun f => S.contains f.type
  | _ => false
section
variable {H : Type} {enc : TypeId × Value → H} {P : Program} {w : World} {G : Nat → Option Nat} {B : Nat} {S : List TypeId}
theorem weightsEach_get {ts : List TypeId} {ds : List (DataW H)} (h : (DataW.weightsEach P ts ds).all (· ≤ reachBytes) = true) {i : Nat} {t : TypeId} {d : DataW H} (ht : ts[i]? = some t) (hd : ds[i]? = some d) : (d.weights P t).all (· ≤ reachBytes) = true :=
  List.all_eq_true.2 fun n hn => List.all_eq_true.1 h n (DataW.weights_mem_each ht hd n hn)
theorem weightsAll_get {e : TypeId} : ∀ {ds : List (DataW H)}, (DataW.weightsAll P e ds).all (· ≤ reachBytes) = true → ∀ {i : Nat} {d : DataW H}, ds[i]? = some d → (d.weights P e).all (· ≤ reachBytes) = true
  | [], _, i, d, hd => by simp at hd
  | x :: ds, h, i, d, hd => by
    simp only [DataW.weightsAll, List.all_append, Bool.and_eq_true] at h
    cases i with
    | zero => simp at hd; subst hd; exact h.1
    | succ i => exact weightsAll_get h.2 (by simpa using hd)
theorem flat_of (hS : flatTypes P S = true) : ∀ (n : Nat) (t : TypeId) (cs : List Value) (x : DataW H × List MemPlace), S.contains t = true →
    DataW.trod enc P w 0 (fun _ => true) true n t cs = some x → (x.1.weights P t).all (· ≤ reachBytes) = true → Flat P t cs := by
  intro n
  induction n with
  | zero => intro t cs x _ h; simp [DataW.trod] at h
  | succ n ih =>
    intro t cs x ht h hw
    have h1 := List.all_eq_true.1 hS t (by simpa using ht)
    split at h1
    · rename_i hu
      obtain ⟨b, rfl, rfl⟩ := DataW.trod_bool hu h
      exact .bool b hu
    · rename_i k hu
      obtain ⟨z, rfl, rfl, hz⟩ := DataW.trod_int hu h
      exact .int z hu hz
    · rename_i hu
      obtain ⟨s, rfl, rfl, hz⟩ := DataW.trod_string hu h
      refine .str s hu ?_
      simp only [DataW.weights, List.all_cons, List.all_nil, Bool.and_true, reachBytes] at hw
      have := of_decide_eq_true hw
      rwa [Array.length_toList] at this
    · rename_i fs hu
      obtain ⟨xs, m, hm, rfl, hl, hn, hf⟩ := DataW.trod_struct hu h
      obtain rfl : m = n := by omega
      simp only [DataW.weights, hu] at hw
      refine .struct hu hl fun i f hi => ?_
      have hlt : i < xs.length := by rw [hn]; exact (Array.getElem?_eq_some_iff.1 hi).1
      have hx := hf i f hi
      rw [List.getElem?_eq_getElem hlt] at hx
      refine ih _ _ _ ?_ hx ?_
      · have := List.all_eq_true.1 h1 f (by have := Array.mem_of_getElem? hi; simpa using this)
        exact this
      · refine weightsEach_get hw (i := i) ?_ ?_
        · rw [List.getElem?_map, Array.getElem?_toList, hi]; rfl
        · rw [List.getElem?_map, List.getElem?_eq_getElem hlt]; rfl
    · cases h1
end
/-- A slice in the abstract heap, as a list: f gives an element's cells, sz how many. -/
def Sl {α : Type} (f : α → List Value) (sz : Nat) (ro : Bool) (h : AHeap) (v : Value) (l : List α) : Prop :=
  (v = .slice none 0 0 ∧ l = []) ∨ ∃ b o m cells, v = .slice (some ⟨b, o, none⟩) l.length m ∧ blkA h b = some ⟨cells, sz, ro⟩ ∧ (cells.drop o).take (l.length * sz) = l.flatMap f ∧ o + l.length * sz ≤ cells.length
theorem Sl.mono {α : Type} {f : α → List Value} {sz : Nat} {ro : Bool} {h h' : AHeap} {v : Value} {l : List α} (s : Sl f sz ro h v l) (e : Ext h h') : Sl f sz ro h' v l := by
  rcases s with s | ⟨b, o, m, cells, h1, h2, h3⟩
  · exact .inl s
  · exact .inr ⟨b, o, m, cells, h1, e.blk h2, h3⟩
theorem flatMap_len {α : Type} {f : α → List Value} {sz : Nat} (hf : ∀ x, (f x).length = sz) : ∀ l : List α, (l.flatMap f).length = l.length * sz
  | [] => by simp
  | x :: l => by rw [List.flatMap_cons, List.length_append, flatMap_len hf l, hf, List.length_cons, Nat.add_mul]; omega
theorem flatMap_chunk {α : Type} {f : α → List Value} {sz : Nat} (hf : ∀ x, (f x).length = sz) : ∀ (l : List α) (i : Nat) (x : α), l[i]? = some x → ((l.flatMap f).drop (i * sz)).take sz = f x
  | [], i, x, h => by simp at h
  | y :: l, 0, x, h => by
    simp at h; subst h
    rw [Nat.zero_mul, List.drop_zero, List.flatMap_cons, List.take_append_of_le_length (by rw [hf]; exact Nat.le_refl _), List.take_of_length_le (by rw [hf]; exact Nat.le_refl _)]
  | y :: l, i + 1, x, h => by
    rw [List.flatMap_cons, Nat.add_mul, Nat.one_mul, Nat.add_comm, ← List.drop_drop]
    have : (f y ++ l.flatMap f).drop sz = l.flatMap f := by
      rw [List.drop_append, List.drop_of_length_le (by rw [hf]; exact Nat.le_refl _), hf]; simp
    rw [this]
    exact flatMap_chunk hf l i x (by simpa using h)
section
variable {H : Type} {enc : TypeId × Value → H} {P : Program} {w : World} {G : Nat → Option Nat} {B : Nat} {S : List TypeId}
/-- Cells without addresses stand to themselves. -/
theorem LR.self (E : Env) {cs : List Value} (h : cs.all (plainV 1) = true) : LR E cs cs := LR.plain E 1 cs h
theorem mem_cell {b o n : Nat} {cs : List Value} (h : w.cells? 0 (⟨b, o, none⟩ : Addr) n = some cs) : cs.length = n ∧ ∀ i, i < n → ∃ c el fz, w.heap[b]? = some (.cells c el fz) ∧ c[o + i]? = cs[i]? := by
  obtain ⟨_, h1, h2⟩ := World.cells?_some h
  refine ⟨h1, fun i hi => ?_⟩
  have := h2 i hi
  rw [add_plain] at this
  have hs : cs[i]? = some (cs[i]'(by omega)) := List.getElem?_eq_getElem _
  rw [hs] at this ⊢
  unfold World.cell? at this
  split at this
  · rename_i c el fz hh; exact ⟨c, el, fz, hh, by simpa using this⟩
  · cases this
theorem Env.put_none {E : Env} {n id : Nat} {e : Ent} (hn : id ≠ n) (h : E id = none) : E.put n e id = none := by
  unfold Env.put; rw [if_neg hn]; exact h
/-- A new read-only block that stands for cells of the model. -/
theorem Sim.lay {E : Env} {h : AHeap} (s : Sim G B E h w) (hf : ∀ id, h.length ≤ id → E id = none) (hw : ∀ (id : Nat) (o : AObj), h[id]? = some (some o) → wrO o = false) {b o sz : Nat} {c : Array Value} {el : TypeId} {fz : Nat × Nat} {cells : List Value} (hb : w.heap[b]? = some (.cells c el fz))
    (hc : ∀ (j : Nat) v, cells[j]? = some v → c[o + j]? = some v) (hp : cells.all (plainV 1) = true) :
    Sim G B (E.put h.length ⟨b, o, c.size, sz⟩) (h ++ [some (.cells ⟨cells, sz, true⟩)]) w := by
  have hle := Env.put_le (n := h.length) (⟨b, o, c.size, sz⟩ : Ent) (hf _ (Nat.le_refl _))
  have hold : ∀ (id : Nat) (oo : AObj) (e : Ent), (h ++ [some (.cells ⟨cells, sz, true⟩)])[id]? = some (some oo) → (E.put h.length ⟨b, o, c.size, sz⟩) id = some e →
      (h[id]? = some (some oo) ∧ E id = some e) ∨ (id = h.length ∧ oo = .cells ⟨cells, sz, true⟩ ∧ e = ⟨b, o, c.size, sz⟩) := by
    intro id oo e h1 h2
    rw [List.getElem?_append] at h1
    split at h1
    · rename_i hlt
      unfold Env.put at h2
      rw [if_neg (by omega)] at h2
      exact .inl ⟨h1, h2⟩
    · rename_i hge
      have hid : id = h.length := by
        have := (List.getElem?_eq_some_iff.1 h1).1
        simp at this; omega
      subst hid
      simp at h1
      unfold Env.put at h2
      simp at h2
      exact .inr ⟨rfl, h1.symm, h2.symm⟩
  have hro : ∀ (id : Nat) (oo : AObj), (h ++ [some (.cells ⟨cells, sz, true⟩)])[id]? = some (some oo) → wrO oo = false := by
    intro id oo h1
    rw [List.getElem?_append] at h1
    split at h1
    · exact hw id oo h1
    · have hid : id - h.length = 0 := by
        have := (List.getElem?_eq_some_iff.1 h1).1
        simp at this; omega
      rw [hid] at h1
      simp at h1
      subst h1
      rfl
  refine ⟨fun id oo e h1 h2 => ?_, fun id oo e h1 h2 h3 => ?_, fun i j oi oj ei ej hij h1 h2 h3 h4 h5 => ?_, s.base, fun g id hg => ?_⟩
  · rcases hold id oo e h1 h2 with ⟨a1, a2⟩ | ⟨rfl, rfl, rfl⟩
    · exact (s.obj id oo e a1 a2).mono hle rfl
    · refine ⟨c, el, fz, hb, rfl, rfl, fun j v hj => ?_, fun hh => by cases hh⟩
      refine ⟨v, hc j v hj, VR.plain _ 1 v (List.all_eq_true.1 hp v (List.mem_of_getElem? hj))⟩
  · rw [hro id oo h1] at h3; cases h3
  · rw [hro i oi h1] at h5; cases h5
  · obtain ⟨e, he, h1⟩ := s.glob g id hg
    exact ⟨e, hle id e he, h1⟩
/-- What is known at the begin: the abstract heap so far, all of it read only; the places from there on are free. -/
structure Laid (G : Nat → Option Nat) (B : Nat) (E : Env) (h : AHeap) (w : World) : Prop where
  sim : Sim G B E h w
  free : ∀ id, h.length ≤ id → E id = none
  ro : ∀ (id : Nat) (o : AObj), h[id]? = some (some o) → wrO o = false
theorem Laid.start (hG : G = fun _ => none) (hB : B ≤ w.heap.size) : Laid G B (fun _ => none) [] w := by
  subst hG
  refine ⟨⟨fun id o e h => by simp at h, fun id o e h => by simp at h, fun i j oi oj ei ej _ h => by simp at h, hB, fun g id h => by cases h⟩, fun _ _ => rfl, fun id o h => by simp at h⟩
theorem Laid.add {E : Env} {h : AHeap} (s : Laid G B E h w) {b o sz : Nat} {c : Array Value} {el : TypeId} {fz : Nat × Nat} {cells : List Value} (hb : w.heap[b]? = some (.cells c el fz))
    (hc : ∀ (j : Nat) v, cells[j]? = some v → c[o + j]? = some v) (hp : cells.all (plainV 1) = true) :
    Laid G B (E.put h.length ⟨b, o, c.size, sz⟩) (h ++ [some (.cells ⟨cells, sz, true⟩)]) w := by
  refine ⟨s.sim.lay s.free s.ro hb hc hp, fun id hid => ?_, fun id oo h1 => ?_⟩
  · simp at hid
    exact Env.put_none (by omega) (s.free id (by omega))
  · rw [List.getElem?_append] at h1
    split at h1
    · exact s.ro id oo h1
    · have hid : id - h.length = 0 := by
        have := (List.getElem?_eq_some_iff.1 h1).1
        simp at this; omega
      rw [hid] at h1
      simp at h1
      subst h1
      rfl
/-- A cell that holds a slice of values without addresses. -/
theorem Laid.slice {α : Type} {f : α → List Value} {ok : α → Prop} {E : Env} {h : AHeap} (s : Laid G B E h w) {t e : TypeId} {v : Value} {d : DataW H} {ps : List MemPlace} (hS : flatTypes P S = true) (he : S.contains e = true) (hu : P.underlying t = some (.slice e))
    (hpos : 0 < P.cellsOf e) (hinv : ∀ cs, Flat P e cs → ∃ x, cs = f x ∧ ok x) (hpl : ∀ x, (f x).all (plainV 1) = true) (hlen : ∀ x, (f x).length = P.cellsOf e)
    (hval : Cell.ok P w .any 0 t v) (hd : DataW.Trod enc P w 0 (fun _ => true) true t v d ps) (hw : (d.weights P t).all (· ≤ reachBytes) = true) :
    ∃ (E' : Env) (k : AHeap) (va : Value) (l : List α), E.le E' ∧ Laid G B E' (h ++ k) w ∧ VR E' va v ∧ Sl f (P.cellsOf e) true (h ++ k) va l ∧ l.length * P.bytesOf e ≤ 140737488351232 ∧ ∀ x ∈ l, ok x := by
  obtain ⟨fuel, hf⟩ := hd
  rcases DataW.trod_slice hu hf with ⟨hcs, hx⟩ | ⟨a, len, cap, elems, rest, n, _, hcs, hx, _, hle, hmax, hel, hget, hsp, _⟩
  · have hv : v = .slice none 0 0 := by
      cases v <;> simp [Value.cells] at hcs
      all_goals first | (obtain ⟨rfl, rfl, rfl⟩ := hcs; rfl) | (exfalso; simp [Cell.ok, hu] at hval)
    subst hv
    exact ⟨E, [], _, [], Env.le.refl E, by rw [List.append_nil]; exact s, .nilsl, .inl ⟨rfl, rfl⟩, by simp, by simp⟩
  · have hv : v = .slice (some a) len cap := by
      cases v <;> simp [Value.cells] at hcs
      all_goals first | (obtain ⟨rfl, rfl, rfl⟩ := hcs; rfl) | (exfalso; simp [Cell.ok, hu] at hval)
    subst hv
    simp only [Cell.ok, hu] at hval
    obtain ⟨_, _, _, hspot, row, cells0, hshape, _⟩ := hval
    obtain ⟨b, o, sp⟩ := a
    simp only at hspot
    subst hspot
    have hobj : ∃ c el fz, w.heap[b]? = some (.cells c el fz) := by
      unfold World.shape? at hshape
      split at hshape
      · rename_i c el fz hh; exact ⟨c, el, fz, hh⟩
      · cases hshape
    obtain ⟨c, el, fz, hblk⟩ := hobj
    cases hx
    simp only [DataW.weights, hu, List.all_cons, List.all_append, Bool.and_eq_true, List.length_map] at hw
    obtain ⟨hw1, hw2, _⟩ := hw
    have hw1 := of_decide_eq_true hw1
    simp only [reachBytes] at hw1
    have hsp' := hsp rfl
    -- each element
    have each : ∀ i, i < len → ∃ x : α, ok x ∧ ∀ j, j < P.cellsOf e → c[o + i * P.cellsOf e + j]? = (f x)[j]? := by
      intro i hi
      have h1 := hget i hi
      have hlt : i < elems.length := by omega
      rw [List.getElem?_eq_getElem hlt, Option.bind_eq_some_iff] at h1
      obtain ⟨cs, hcs2, hy⟩ := h1
      rw [add_plain] at hcs2
      obtain ⟨hl, hm⟩ := mem_cell hcs2
      have hfl := flat_of hS n e cs _ he hy (by
        refine weightsAll_get (ds := elems.map (·.1)) hw2 (i := i) ?_
        rw [List.getElem?_map, List.getElem?_eq_getElem hlt]; rfl)
      obtain ⟨x, rfl, hok⟩ := hinv cs hfl
      refine ⟨x, hok, fun j hj => ?_⟩
      obtain ⟨c', el', fz', h3, h4⟩ := hm j hj
      rw [hblk] at h3
      cases h3
      exact h4
    have fitcap : cap ≠ 0 → o + cap * P.cellsOf e ≤ c.size := by
      intro hc0
      -- the last element
      have h1 : (w.cells? 0 ((⟨b, o, none⟩ : Addr).add ((cap - 1) * P.cellsOf e)) (P.cellsOf e)).isSome = true := by
        by_cases hl : cap - 1 < len
        · have h1 := hget (cap - 1) hl
          rw [List.getElem?_eq_getElem (by omega), Option.bind_eq_some_iff] at h1
          obtain ⟨cs, h2, _⟩ := h1
          rw [h2]; rfl
        · obtain ⟨h2, h3⟩ := hsp'
          have h4 := h3 (cap - 1 - len) (by omega)
          rw [show len + (cap - 1 - len) = cap - 1 by omega, List.getElem?_eq_getElem (by omega), Option.bind_eq_some_iff] at h4
          obtain ⟨cs, h5, _⟩ := h4
          rw [h5]; rfl
      obtain ⟨cs, hcs2⟩ := Option.isSome_iff_exists.1 h1
      rw [add_plain] at hcs2
      obtain ⟨hl, hm⟩ := mem_cell hcs2
      obtain ⟨c', el', fz', h3, h4⟩ := hm (P.cellsOf e - 1) (by omega)
      rw [hblk] at h3
      cases h3
      rw [List.getElem?_eq_getElem (by omega)] at h4
      have := (Array.getElem?_eq_some_iff.1 h4).1
      have e1 : cap * P.cellsOf e = (cap - 1) * P.cellsOf e + P.cellsOf e := by
        obtain ⟨q, rfl⟩ : ∃ q, cap = q + 1 := ⟨cap - 1, by omega⟩
        rw [Nat.add_sub_cancel, Nat.add_mul, Nat.one_mul]
      omega
    -- the list
    have list : ∀ m, m ≤ len → ∃ l : List α, l.length = m ∧ (∀ x ∈ l, ok x) ∧ ∀ (j : Nat) u, (l.flatMap f)[j]? = some u → c[o + j]? = some u := by
      intro m
      induction m with
      | zero => intro _; exact ⟨[], rfl, by simp, by simp⟩
      | succ m ih =>
        intro hm
        obtain ⟨l, h1, h2, h3⟩ := ih (by omega)
        obtain ⟨x, hx1, hx2⟩ := each m (by omega)
        refine ⟨l ++ [x], by simp [h1], fun y hy => ?_, fun j u hj => ?_⟩
        · rcases List.mem_append.1 hy with hy | hy
          · exact h2 y hy
          · simp at hy; subst hy; exact hx1
        · rw [List.flatMap_append, List.getElem?_append] at hj
          have hfl := flatMap_len hlen l
          rw [h1] at hfl
          split at hj
          · exact h3 j u hj
          · simp only [List.flatMap_cons, List.flatMap_nil, List.append_nil] at hj
            rename_i hge
            rw [hfl] at hj hge
            have hlt := (List.getElem?_eq_some_iff.1 hj).1
            rw [hlen] at hlt
            have := hx2 (j - m * P.cellsOf e) hlt
            rw [hj] at this
            rw [← this]
            congr 1
            omega
    obtain ⟨l, hl1, hl2, hl3⟩ := list len (Nat.le_refl _)
    have hp : (l.flatMap f).all (plainV 1) = true := by
      refine List.all_eq_true.2 fun u hu2 => ?_
      obtain ⟨x, hx1, hx2⟩ := List.mem_flatMap.1 hu2
      exact List.all_eq_true.1 (hpl x) u hx2
    have hnew := s.add (sz := P.cellsOf e) hblk hl3 hp
    have hfl := flatMap_len hlen l
    refine ⟨_, [some (.cells ⟨l.flatMap f, P.cellsOf e, true⟩)], .slice (some ⟨h.length, 0, none⟩) len len, l, Env.put_le _ (s.free _ (Nat.le_refl _)), hnew, ?_, .inr ⟨h.length, 0, len, l.flatMap f, by rw [hl1], blkA_new h _, ?_, ?_⟩, ?_, hl2⟩
    · exact .sl (e := ⟨b, o, c.size, P.cellsOf e⟩) (by simp [Env.put]) hle fitcap (fun _ => by simp)
    · rw [List.drop_zero, List.take_of_length_le (by omega)]
    · omega
    · have hel2 : elems.length = len := hel
      have : l.length * P.bytesOf e ≤ (elems.length + rest.length) * P.bytesOf e := Nat.mul_le_mul_right _ (by omega)
      omega
/-- A law's call, off the abstract one. -/
theorem law_calls (c : Ctx) (hm : c.P.follows .mixedOrders = true) (hp : PrimOK c w.heap.size) {f : FuncId} (hpf : c.prim f = none) {args args' : List Value} {h : AHeap} {E : Env}
    (hfw : FW c f args h fun v _ => v = .bool true) (s : Laid c.G w.heap.size E h w) (hargs : LR E args args') :
    Calls c.P f args'.toArray w fun e w' => e = .returned (.bool true) ∧ Go.RowKit.Below w.heap.size w w' := by
  obtain ⟨v, h', he, rfl⟩ := hfw
  refine (law_sim c w.heap.size hm hp hpf he s.sim hargs (fun id h1 _ => s.free id h1)).mono fun e w' ⟨E', v', h1, h2, h3⟩ => ?_
  cases h3
  exact ⟨h1, h2.below s.sim⟩
end
end Go.Abs
