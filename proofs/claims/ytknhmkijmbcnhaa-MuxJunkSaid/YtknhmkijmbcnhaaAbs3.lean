/- Abs3: how the abstract heap and values stand to the model's; the relation is kept where environments grow. Conditions: none. -/
import Derived.Test.YtknhmkijmbcnhaaAbs2
import Derived.Below
import Derived.Laws.World
set_option linter.unusedVariables false
set_option linter.unusedSimpArgs false
namespace Go.Abs
/-- Where an abstract block lies: the model's block, the first cell; how many cells the model's block has; the cells of an element. -/
structure Ent where
  blk : Nat
  base : Nat
  csz : Nat
  esz : Nat
abbrev Env := Nat → Option Ent
inductive VR (E : Env) : Value → Value → Prop
  | bool (b : Bool) : VR E (.bool b) (.bool b)
  | int (k : IntKind) (n : Int) : VR E (.int k n) (.int k n)
  | float (k : FloatKind) (n : Nat) : VR E (.float k n) (.float k n)
  | complex (k : FloatKind) (n m : Nat) : VR E (.complex k n m) (.complex k n m)
  | string (s : ByteArray) : VR E (.string s) (.string s)
  | nilptr : VR E (.pointer none) (.pointer none)
  | ptr {b o : Nat} {e : Ent} (h : E b = some e) : VR E (.pointer (some ⟨b, o, none⟩)) (.pointer (some ⟨e.blk, e.base + o, none⟩))
  | nilsl : VR E (.slice none 0 0) (.slice none 0 0)
  | sl {b o n m off cap : Nat} {e : Ent} (h : E b = some e) (h1 : n ≤ cap) (h2 : cap ≠ 0 → off + cap * e.esz ≤ e.csz) (h3 : n ≠ 0 → off = e.base + o) :
      VR E (.slice (some ⟨b, o, none⟩) n m) (.slice (some ⟨e.blk, off, none⟩) n cap)
  | func (fn : Fn) {xs ys cs ds : Array Value} (h1 : xs.size = ys.size) (h2 : cs.size = ds.size) (h3 : ∀ i, i < xs.size → VR E (xs.getD i undef) (ys.getD i undef))
      (h4 : ∀ i, i < cs.size → VR E (cs.getD i undef) (ds.getD i undef)) : VR E (.func fn xs cs) (.func fn ys ds)
  | nilFunc : VR E .nilFunc .nilFunc
  | nilIface : VR E .nilIface .nilIface
  | iface (t : TypeId) {v v' : Value} (h : VR E v v') : VR E (.iface t v) (.iface t v')
  | agg {xs ys : Array Value} (h1 : xs.size = ys.size) (h3 : ∀ i, i < xs.size → VR E (xs.getD i undef) (ys.getD i undef)) : VR E (.agg xs) (.agg ys)
  | tuple {xs ys : Array Value} (h1 : xs.size = ys.size) (h3 : ∀ i, i < xs.size → VR E (xs.getD i undef) (ys.getD i undef)) : VR E (.tuple xs) (.tuple ys)
def LR (E : Env) (xs ys : List Value) : Prop := xs.length = ys.length ∧ ∀ (i : Nat) v, xs[i]? = some v → ∃ v', ys[i]? = some v' ∧ VR E v v'
theorem LR.nil (E : Env) : LR E [] [] := ⟨rfl, by simp⟩
theorem LR.cons {E : Env} {v v' : Value} {xs ys : List Value} (h : VR E v v') (hl : LR E xs ys) : LR E (v :: xs) (v' :: ys) := by
  refine ⟨by simp [hl.1], fun i u hu => ?_⟩
  cases i with
  | zero => simp at hu; subst hu; exact ⟨v', rfl, h⟩
  | succ i => exact hl.2 i u (by simpa using hu)
theorem LR.uncons {E : Env} {v v' : Value} {xs ys : List Value} (h : LR E (v :: xs) (v' :: ys)) : VR E v v' ∧ LR E xs ys := by
  refine ⟨?_, by have := h.1; simpa using this, fun i u hu => h.2 (i + 1) u (by simpa using hu)⟩
  obtain ⟨u, hu, hr⟩ := h.2 0 v rfl
  simp at hu; subst hu; exact hr
theorem LR.cases {E : Env} {v : Value} {xs ys : List Value} (h : LR E (v :: xs) ys) : ∃ v' zs, ys = v' :: zs ∧ VR E v v' ∧ LR E xs zs := by
  cases ys with
  | nil => exact absurd h.1 (by simp)
  | cons v' zs => exact ⟨v', zs, rfl, h.uncons.1, h.uncons.2⟩
theorem LR.append {E : Env} : ∀ {xs ys us vs : List Value}, LR E xs ys → LR E us vs → LR E (xs ++ us) (ys ++ vs)
  | [], [], _, _, _, h => h
  | [], _ :: _, _, _, h, _ => absurd h.1 (by simp)
  | _ :: _, [], _, _, h, _ => absurd h.1 (by simp)
  | x :: xs, y :: ys, _, _, h, h' => LR.cons h.uncons.1 (LR.append h.uncons.2 h')
theorem LR.take {E : Env} {xs ys : List Value} (n : Nat) (h : LR E xs ys) : LR E (xs.take n) (ys.take n) := by
  refine ⟨by simp [h.1], fun i v hv => ?_⟩
  rw [List.getElem?_take] at hv ⊢
  split at hv
  · rename_i hi; rw [if_pos hi]; exact h.2 i v hv
  · cases hv
theorem LR.drop {E : Env} {xs ys : List Value} (n : Nat) (h : LR E xs ys) : LR E (xs.drop n) (ys.drop n) := by
  refine ⟨by simp [h.1], fun i v hv => ?_⟩
  rw [List.getElem?_drop] at hv ⊢
  exact h.2 _ v hv
theorem arr_getD (xs : Array Value) (i : Nat) (h : i < xs.size) : xs.toList[i]? = some (xs.getD i undef) := by
  simp [Array.getD, h]
theorem LR.of_arr {E : Env} {xs ys : Array Value} (h1 : xs.size = ys.size) (h : ∀ i, i < xs.size → VR E (xs.getD i undef) (ys.getD i undef)) : LR E xs.toList ys.toList := by
  refine ⟨by simpa using h1, fun i v hv => ?_⟩
  have hi : i < xs.size := by
    rcases Nat.lt_or_ge i xs.size with h' | h'
    · exact h'
    · rw [List.getElem?_eq_none (by simpa using h')] at hv; cases hv
  rw [arr_getD xs i hi] at hv
  cases hv
  exact ⟨_, arr_getD ys i (h1 ▸ hi), h i hi⟩
theorem LR.arr {E : Env} {xs ys : List Value} (h : LR E xs ys) : xs.toArray.size = ys.toArray.size ∧ ∀ i, i < xs.toArray.size → VR E (xs.toArray.getD i undef) (ys.toArray.getD i undef) := by
  refine ⟨by simpa using h.1, fun i hi => ?_⟩
  have h1 := arr_getD xs.toArray i hi
  simp only [] at h1
  obtain ⟨v', h2, h3⟩ := h.2 i _ h1
  have hi' : i < ys.toArray.size := by have := h.1; simp at hi ⊢; omega
  have h4 := arr_getD ys.toArray i hi'
  simp only [] at h4
  rw [h4] at h2; cases h2
  exact h3
theorem VR.agg' {E : Env} {xs ys : List Value} (h : LR E xs ys) : VR E (.agg xs.toArray) (.agg ys.toArray) := .agg h.arr.1 h.arr.2
theorem VR.tuple' {E : Env} {xs ys : List Value} (h : LR E xs ys) : VR E (.tuple xs.toArray) (.tuple ys.toArray) := .tuple h.arr.1 h.arr.2
theorem VR.func' {E : Env} (fn : Fn) {xs ys cs ds : List Value} (h : LR E xs ys) (h' : LR E cs ds) : VR E (.func fn xs.toArray cs.toArray) (.func fn ys.toArray ds.toArray) :=
  .func fn h.arr.1 h'.arr.1 h.arr.2 h'.arr.2
def Env.le (E E' : Env) : Prop := ∀ id e, E id = some e → E' id = some e
theorem Env.le.refl (E : Env) : E.le E := fun _ _ h => h
theorem Env.le.trans {E E' E'' : Env} (h : E.le E') (h' : E'.le E'') : E.le E'' := fun i e he => h' i e (h i e he)
theorem VR.mono {E E' : Env} (hE : E.le E') {v v' : Value} (h : VR E v v') : VR E' v v' := by
  induction h with
  | bool b => exact .bool b
  | int k n => exact .int k n
  | float k n => exact .float k n
  | complex k n m => exact .complex k n m
  | string s => exact .string s
  | nilptr => exact .nilptr
  | ptr h => exact .ptr (hE _ _ h)
  | nilsl => exact .nilsl
  | sl h h1 h2 h3 => exact .sl (hE _ _ h) h1 h2 h3
  | func fn h1 h2 _ _ i3 i4 => exact .func fn h1 h2 i3 i4
  | nilFunc => exact .nilFunc
  | nilIface => exact .nilIface
  | iface t _ ih => exact .iface t ih
  | agg h1 _ ih => exact .agg h1 ih
  | tuple h1 _ ih => exact .tuple h1 ih
theorem LR.mono {E E' : Env} (hE : E.le E') {xs ys : List Value} (h : LR E xs ys) : LR E' xs ys :=
  ⟨h.1, fun i v hv => let ⟨v', h1, h2⟩ := h.2 i v hv; ⟨v', h1, h2.mono hE⟩⟩
/-- What holds no address is itself. -/
theorem VR.plain (E : Env) : ∀ (k : Nat) (v : Value), plainV k v = true → VR E v v
  | 0, _, h => by simp [plainV] at h
  | k + 1, v, h => by
    have arr : ∀ cs : Array Value, cs.toList.all (plainV k) = true → ∀ i, i < cs.size → VR E (cs.getD i undef) (cs.getD i undef) := fun cs hc i hi =>
      VR.plain E k _ (List.all_eq_true.1 hc _ (List.mem_of_getElem? (arr_getD cs i hi)))
    cases v with
    | bool b => exact .bool b
    | int k n => exact .int k n
    | float k n => exact .float k n
    | complex k n m => exact .complex k n m
    | string s => exact .string s
    | pointer a => cases a with
      | none => exact .nilptr
      | some a => simp [plainV] at h
    | slice a n m => cases a with
      | none => cases n with
        | zero => cases m with
          | zero => exact .nilsl
          | succ m => simp [plainV] at h
        | succ n => simp [plainV] at h
      | some a => simp [plainV] at h
    | map r => simp [plainV] at h
    | chan r => simp [plainV] at h
    | func fn xs cs =>
      simp only [plainV, Bool.and_eq_true] at h
      exact .func fn rfl rfl (arr xs h.1) (arr cs h.2)
    | nilFunc => exact .nilFunc
    | iface t v => simp only [plainV] at h; exact .iface t (VR.plain E k v h)
    | nilIface => exact .nilIface
    | agg cs => simp only [plainV] at h; exact .agg rfl (arr cs h)
    | tuple cs => simp only [plainV] at h; exact .tuple rfl (arr cs h)
/-- What holds no address is related to itself alone. -/
theorem VR.plain_eq {E : Env} : ∀ (k : Nat) {v v' : Value}, plainV k v = true → VR E v v' → v' = v
  | 0, _, _, h, _ => by simp [plainV] at h
  | k + 1, v, v', h, hr => by
    have arr : ∀ {xs ys : Array Value}, xs.size = ys.size → (∀ i, i < xs.size → VR E (xs.getD i undef) (ys.getD i undef)) → xs.toList.all (plainV k) = true → ys = xs := by
      intro xs ys h1 h2 h3
      apply Array.ext' 
      apply List.ext_getElem?
      intro i
      by_cases hi : i < xs.size
      · rw [arr_getD xs i hi, arr_getD ys i (h1 ▸ hi)]
        congr 1
        exact VR.plain_eq k (List.all_eq_true.1 h3 _ (List.mem_of_getElem? (arr_getD xs i hi))) (h2 i hi)
      · rw [List.getElem?_eq_none (by simp; omega), List.getElem?_eq_none (by simp; omega)]
    cases hr with
    | ptr h' => simp [plainV] at h
    | sl h' _ _ _ => simp [plainV] at h
    | func fn h1 h2 h3 h4 => simp only [plainV, Bool.and_eq_true] at h; rw [arr h1 h3 h.1, arr h2 h4 h.2]
    | iface t h' => simp only [plainV] at h; rw [VR.plain_eq k h h']
    | agg h1 h3 => simp only [plainV] at h; rw [arr h1 h3 h]
    | tuple h1 h3 => simp only [plainV] at h; rw [arr h1 h3 h]
    | _ => rfl
theorem LR.plain (E : Env) (k : Nat) (xs : List Value) (h : xs.all (plainV k) = true) : LR E xs xs :=
  ⟨rfl, fun _ v hv => ⟨v, hv, VR.plain E k v (List.all_eq_true.1 h _ (List.mem_of_getElem? hv))⟩⟩
def wrO : AObj → Bool
  | .cells k => !k.ro
  | .iter _ _ => true
theorem fzOld {fz : Nat × Nat} {n : Nat} (h : fz.1 = fz.2 ∨ n ≤ fz.1) : ∀ j, j < n → ¬ (fz.1 ≤ j ∧ j < fz.2) := by omega
/-- What lies at an abstract block's place. -/
def OR (E : Env) (w : World) (e : Ent) : AObj → Prop
  | .cells k => ∃ c el fz, w.heap[e.blk]? = some (.cells c el fz) ∧ c.size = e.csz ∧ k.esz = e.esz ∧ (∀ (j : Nat) v, k.cells[j]? = some v → ∃ v', c[e.base + j]? = some v' ∧ VR E v v') ∧
      (k.ro = false → fz.1 = fz.2 ∨ c.size ≤ fz.1)
  | .iter s p => e.base = 0 ∧ w.heap[e.blk]? = some (.stringIter s p)
structure Sim (G : Nat → Option Nat) (B : Nat) (E : Env) (h : AHeap) (w : World) : Prop where
  obj : ∀ (id : Nat) o e, h[id]? = some (some o) → E id = some e → OR E w e o
  low : ∀ (id : Nat) o e, h[id]? = some (some o) → E id = some e → wrO o = true → B ≤ e.blk
  apart : ∀ (i j : Nat) oi oj ei ej, i ≠ j → h[i]? = some (some oi) → h[j]? = some (some oj) → E i = some ei → E j = some ej → wrO oi = true → ei.blk ≠ ej.blk
  base : B ≤ w.heap.size
  glob : ∀ g id, G g = some id → ∃ e, E id = some e ∧ e.blk = g ∧ e.base = 0
/-- The model's blocks that may be written. -/
def Wr (E : Env) (h : AHeap) (x : Nat) : Prop := ∃ (id : Nat) (o : AObj) (e : Ent), h[id]? = some (some o) ∧ wrO o = true ∧ E id = some e ∧ e.blk = x
structure Post (G : Nat → Option Nat) (B : Nat) (E E' : Env) (h h' : AHeap) (w w' : World) : Prop where
  le : E.le E'
  len : h.length ≤ h'.length
  new : ∀ id, E' id ≠ E id → h.length ≤ id ∧ id < h'.length
  sim : Sim G B E' h' w'
  os : w'.os = w.os
  tape : w'.tape = w.tape
  output : w'.output = w.output
  size : w.heap.size ≤ w'.heap.size
  frame : ∀ x, x < w.heap.size → ¬ Wr E h x → w'.heap[x]? = w.heap[x]?
  wr : ∀ x, Wr E' h' x → Wr E h x ∨ w.heap.size ≤ x
  fresh : ∀ id e, E' id = some e → E id = none → Wr E h e.blk ∨ w.heap.size ≤ e.blk
theorem OR.lt {E : Env} {w : World} {e : Ent} {o : AObj} (h : OR E w e o) : e.blk < w.heap.size := by
  have : ∃ x, w.heap[e.blk]? = some x := by
    cases o with
    | cells k => obtain ⟨c, el, fz, h1, _⟩ := h; exact ⟨_, h1⟩
    | iter s p => exact ⟨_, h.2⟩
  obtain ⟨x, hx⟩ := this
  exact (Array.getElem?_eq_some_iff.1 hx).1
theorem OR.mono {E E' : Env} {w w' : World} {e : Ent} {o : AObj} (h : OR E w e o) (hE : E.le E') (hw : w'.heap[e.blk]? = w.heap[e.blk]?) : OR E' w' e o := by
  cases o with
  | cells k =>
    obtain ⟨c, el, fz, h1, h2, h3, h4, h5⟩ := h
    exact ⟨c, el, fz, hw.trans h1, h2, h3, fun j v hv => let ⟨v', p, q⟩ := h4 j v hv; ⟨v', p, q.mono hE⟩, h5⟩
  | iter s p => exact ⟨h.1, hw.trans h.2⟩
theorem Sim.heap_eq {G : Nat → Option Nat} {B : Nat} {E : Env} {h : AHeap} {w w' : World} (s : Sim G B E h w) (hh : w'.heap = w.heap) : Sim G B E h w' :=
  ⟨fun id o e h1 h2 => (s.obj id o e h1 h2).mono (Env.le.refl E) (by rw [hh]), s.low, s.apart, by rw [hh]; exact s.base, s.glob⟩
theorem Post.of_drew {G : Nat → Option Nat} {B : Nat} {E : Env} {h : AHeap} {w w' : World} (s : Sim G B E h w) (hh : w'.heap = w.heap) (ho : w'.os = w.os) (ht : w'.tape = w.tape) (hp : w'.output = w.output) :
    Post G B E E h h w w' :=
  ⟨Env.le.refl E, Nat.le_refl _, fun _ hn => absurd rfl hn, s.heap_eq hh, ho, ht, hp, by rw [hh]; exact Nat.le_refl _, fun _ _ _ => by rw [hh], fun _ hx => .inl hx, fun id e h1 h2 => by rw [h2] at h1; cases h1⟩
theorem Post.refl {G : Nat → Option Nat} {B : Nat} {E : Env} {h : AHeap} {w : World} (s : Sim G B E h w) : Post G B E E h h w w := Post.of_drew s rfl rfl rfl rfl
theorem Post.trans {G : Nat → Option Nat} {B : Nat} {E E' E'' : Env} {h h' h'' : AHeap} {w w' w'' : World} (p : Post G B E E' h h' w w') (q : Post G B E' E'' h' h'' w' w'') : Post G B E E'' h h'' w w'' := by
  refine ⟨p.le.trans q.le, Nat.le_trans p.len q.len, fun id hn => ?_, q.sim, q.os.trans p.os, q.tape.trans p.tape, q.output.trans p.output, Nat.le_trans p.size q.size, fun x hx hw => ?_, fun x hx => ?_, fun id e h1 h2 => ?_⟩
  · by_cases h1 : E' id = E id
    · have := q.new id (by rw [h1]; exact hn)
      exact ⟨Nat.le_trans p.len this.1, this.2⟩
    · have := p.new id h1
      exact ⟨this.1, Nat.lt_of_lt_of_le this.2 q.len⟩
  · rw [q.frame x (Nat.lt_of_lt_of_le hx p.size) (fun h1 => ?_), p.frame x hx hw]
    rcases p.wr x h1 with h2 | h2
    · exact hw h2
    · omega
  · rcases q.wr x hx with h1 | h1
    · exact p.wr x h1
    · exact .inr (Nat.le_trans p.size h1)
  · cases h3 : E' id with
    | none =>
      rcases q.fresh id e h1 h3 with h4 | h4
      · exact p.wr _ h4
      · exact .inr (Nat.le_trans p.size h4)
    | some e1 =>
      have := q.le id e1 h3
      rw [h1] at this; cases this
      exact p.fresh id e h3 h2
theorem Post.below {G : Nat → Option Nat} {B : Nat} {E E' : Env} {h h' : AHeap} {w w' : World} (s : Sim G B E h w) (p : Post G B E E' h h' w w') : Go.RowKit.Below B w w' :=
  ⟨p.os, p.tape, p.output, p.size, fun k hk => p.frame k (Nat.lt_of_lt_of_le hk s.base) (fun ⟨id, o, e, h1, h2, h3, h4⟩ => by have := s.low id o e h1 h3 h2; omega)⟩
/-- The places that a step will give to its new blocks are free. -/
def Free (E : Env) (h h' : AHeap) : Prop := ∀ id, h.length ≤ id → id < h'.length → E id = none
end Go.Abs
