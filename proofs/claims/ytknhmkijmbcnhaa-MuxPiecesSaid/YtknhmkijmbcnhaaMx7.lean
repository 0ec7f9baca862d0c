/- Mx7: the law MuxPieces, on lists. Conditions: none. -/
import Derived.Test.YtknhmkijmbcnhaaMx6
set_option maxRecDepth 100000
set_option linter.unusedSimpArgs false
set_option linter.unusedVariables false
namespace Go.Abs
open Go.Proofs
/-- What a stream may still send, at most. -/
def cost (s : Strm) : Nat := if s.reset = true ∨ s.ended = true then 0 else min s.out.length s.window + 5 * ((min s.out.length s.window + 63) / 64) + 5
def pot (m : MuxS) : Nat := m.ready.length + m.control.length + (m.streams.map cost).sum
theorem chunk_cost {s : Strm} (h : (chunkS s).1 ≠ []) : (chunkS s).1.length + cost (chunkS s).2 ≤ cost s := by
  unfold chunkS at h ⊢
  split
  · rename_i h1; rw [if_pos h1] at h; simp at h
  · rename_i h1
    rw [if_neg h1] at h
    split
    · rename_i h2
      simp only [frameS_len, cost, List.length_take, List.length_drop]
      rw [if_neg (by simpa using h1), if_neg h1]
      unfold most64 at h2 ⊢
      omega
    · rename_i h2
      rw [if_neg h2] at h
      split
      · simp only [cost, frameS_len, List.length_nil]
        rw [if_pos (by simp), if_neg h1]
        omega
      · rename_i h3; rw [if_neg h3] at h; simp at h
theorem sum_set (f : Strm → Nat) (t : Strm) : ∀ (l : List Strm) (i : Nat) (s : Strm), l[i]? = some s → ((l.set i t).map f).sum + f s = (l.map f).sum + f t
  | [], i, s, h => by simp at h
  | x :: l, 0, s, h => by simp at h; subst h; simp; omega
  | x :: l, i + 1, s, h => by
    have := sum_set f t l i s (by simpa using h)
    simp only [List.set_cons_succ, List.map_cons, List.sum_cons]
    omega
theorem fill_pot {m m1 : MuxS} (hr : m.ready = []) (h : fillS m = some m1) : pot m1 ≤ pot m := by
  rcases fillS_spec h with ⟨hc, rfl⟩ | ⟨hc, i, s, hs, hch, rfl⟩
  · simp [pot, hr]
  · have h1 := chunk_cost hch
    have h2 := sum_set cost (chunkS s).2 m.streams i s hs
    simp only [pot, hr, hc, List.length_nil]
    omega
theorem nextM {m m1 : MuxS} (hm : (if m.ready ≠ [] then some m else fillS m) = some m1) : ∃ c r, m1.ready = c :: r := by
  cases hr : m1.ready with
  | nil =>
    exfalso
    by_cases h0 : m.ready = []
    · rw [if_neg (by simp [h0])] at hm; exact fillS_ready hm hr
    · rw [if_pos h0] at hm; cases hm; exact h0 hr
  | cons c r => exact ⟨c, r, rfl⟩
theorem outB_some {m m1 : MuxS} {c : UInt8} {r : List UInt8} (hm : (if m.ready ≠ [] then some m else fillS m) = some m1) (hr : m1.ready = c :: r) (k : Nat) : outB (k + 1) m = (c :: (outB k { m1 with ready := r }).1, (outB k { m1 with ready := r }).2) := by
  rw [outB, hm]
  simp only
  rw [hr]
theorem outB_stop {m : MuxS} (hm : (if m.ready ≠ [] then some m else fillS m) = none) (k : Nat) : outB k m = ([], m) := by
  cases k with
  | zero => rfl
  | succ k => rw [outB, hm]
/-- Who may send enough sends all. -/
theorem drained : ∀ (n k : Nat) (m : MuxS), pot m ≤ n → pot m ≤ k → (outB n m).1 = (outB k m).1 := by
  have key : ∀ (m m1 : MuxS), (if m.ready ≠ [] then some m else fillS m) = some m1 → pot m1 ≤ pot m ∧ m1.ready ≠ [] := by
    intro m m1 h
    by_cases hr : m.ready = []
    · rw [if_neg (by simp [hr])] at h
      exact ⟨fill_pot hr h, fillS_ready h⟩
    · rw [if_pos hr] at h; cases h; exact ⟨Nat.le_refl _, hr⟩
  have zero : ∀ (k : Nat) (m : MuxS), pot m = 0 → (outB k m).1 = [] := by
    intro k m h
    cases k with
    | zero => rfl
    | succ k =>
      rw [outB]
      cases hm : (if m.ready ≠ [] then some m else fillS m) with
      | none => rfl
      | some m1 =>
        have := key m m1 hm
        have hp : 0 < m1.ready.length := List.length_pos_iff.2 this.2
        have : m1.ready.length ≤ pot m1 := by unfold pot; omega
        omega
  intro n
  induction n with
  | zero => intro k m h _; rw [zero k m (by omega), zero 0 m (by omega)]
  | succ n ih =>
    intro k m h1 h2
    cases k with
    | zero => rw [zero (n + 1) m (by omega), zero 0 m (by omega)]
    | succ k =>
      cases hm : (if m.ready ≠ [] then some m else fillS m) with
      | none => rw [outB_stop hm, outB_stop hm]
      | some m1 =>
        have hk := key m m1 hm
        obtain ⟨c, r, hr⟩ := nextM hm
        have hp : pot { m1 with ready := r } + 1 = pot m1 := by unfold pot; rw [hr]; simp only [List.length_cons]; omega
        have := ih k { m1 with ready := r } (by omega) (by omega)
        rw [outB_some hm hr, outB_some hm hr, this]
theorem outB_add : ∀ (a b : Nat) (m : MuxS), outB (a + b) m = ((outB a m).1 ++ (outB b (outB a m).2).1, (outB b (outB a m).2).2) := by
  intro a
  induction a with
  | zero => intro b m; rw [Nat.zero_add, outB]; rfl
  | succ a ih =>
    intro b m
    cases hm : (if m.ready ≠ [] then some m else fillS m) with
    | none => rw [outB_stop hm, outB_stop hm, outB_stop hm]; rfl
    | some m1 =>
      obtain ⟨c, r, hr⟩ := nextM hm
      rw [show a + 1 + b = (a + b) + 1 by omega, outB_some hm hr, outB_some hm hr, ih]
      rfl
theorem outB_len : ∀ (n : Nat) (m : MuxS), (outB n m).1.length ≤ n := by
  intro n
  induction n with
  | zero => intro m; simp [outB]
  | succ n ih =>
    intro m
    cases hm : (if m.ready ≠ [] then some m else fillS m) with
    | none => rw [outB_stop hm]; simp
    | some m1 =>
      obtain ⟨c, r, hr⟩ := nextM hm
      rw [outB_some hm hr]
      exact Nat.succ_le_succ (ih _)
theorem outB_MB : ∀ (n : Nat) (m : MuxS), MB m → MB (outB n m).2 := by
  intro n
  induction n with
  | zero => intro m h; exact h
  | succ n ih =>
    intro m h
    cases hm : (if m.ready ≠ [] then some m else fillS m) with
    | none => rw [outB_stop hm]; exact h
    | some m1 =>
      have h1 : MB m1 := by
        by_cases hr : m.ready = []
        · rw [if_neg (by simp [hr])] at hm; exact fillS_MB hm h
        · rw [if_pos hr] at hm; cases hm; exact h
      obtain ⟨c, r, hr⟩ := nextM hm
      rw [outB_some hm hr]
      refine ih _ ⟨h1.1, h1.2.1, ?_, h1.2.2.2⟩
      have := h1.2.2.1
      rw [hr] at this
      simp only [List.length_cons] at this
      simp only; omega
/-- One body more. -/
def textP (b : List UInt8) : List UInt8 := b.take (min b.length 100)
def strP (m : MuxS) (b : List UInt8) : Strm := { newStrm m m.next [104] with out := textP b, ends := true }
def stepP (m : MuxS) (b : List UInt8) : MuxS := { openS m [104] with streams := m.streams ++ [strP m b] }
def buildP (w : Nat) (l : List (List UInt8)) : MuxS := l.foldl stepP (newM true w)
structure PInv (w : Nat) (m : MuxS) (j : Nat) : Prop where
  br : m.broken = false
  len : m.streams.length = j
  nx : m.next = 2 * j + 1
  rd : m.ready = []
  ct : m.control.length = 6 * j
  win : m.window = w
  str : ∀ s, s ∈ m.streams → s.id < m.next ∧ s.window = w ∧ s.out.length ≤ 100
theorem PInv.new (w : Nat) : PInv w (newM true w) 0 := ⟨rfl, rfl, rfl, rfl, rfl, rfl, fun s h => by simp [newM] at h⟩
theorem textP_len (b : List UInt8) : (textP b).length ≤ 100 := by unfold textP; rw [List.length_take]; omega
theorem PInv.step {w : Nat} {m : MuxS} {j : Nat} (v : PInv w m j) (b : List UInt8) : PInv w (stepP m b) (j + 1) := by
  refine ⟨v.br, by simp [stepP, v.len], ?_, v.rd, ?_, v.win, fun s hs => ?_⟩
  · simp only [stepP, openS, v.nx]; omega
  · simp only [stepP, openS, List.length_append, v.ct, frameS_len, List.length_cons, List.length_nil]; omega
  · simp only [stepP, openS] at hs ⊢
    rcases List.mem_append.1 hs with h | h
    · have := v.str s h; omega
    · rw [List.mem_singleton] at h; subst h
      exact ⟨Nat.lt_add_of_pos_right (by decide), v.win, textP_len b⟩
theorem buildP_inv (w : Nat) : ∀ l : List (List UInt8), PInv w (buildP w l) l.length := by
  intro l
  have : ∀ (l : List (List UInt8)) (m : MuxS) (j : Nat), PInv w m j → PInv w (l.foldl stepP m) (j + l.length) := by
    intro l
    induction l with
    | nil => intro m j h; exact h
    | cons b l ih => intro m j h; have := ih _ _ (h.step b); rw [List.length_cons, show j + (l.length + 1) = j + 1 + l.length by omega]; exact this
  have h := this l _ 0 (PInv.new w)
  rw [Nat.zero_add] at h
  exact h
theorem sum_le (l : List Strm) (h : ∀ s, s ∈ l → cost s ≤ 115) : (l.map cost).sum ≤ 115 * l.length := by
  induction l with
  | nil => simp
  | cons x l ih =>
    have h1 := ih (fun s hs => h s (List.mem_cons_of_mem _ hs))
    have h2 := h x List.mem_cons_self
    simp only [List.map_cons, List.sum_cons, List.length_cons]
    omega
theorem PInv.pot {w : Nat} {m : MuxS} {j : Nat} (v : PInv w m j) : Go.Abs.pot m ≤ 121 * j := by
  have h := sum_le m.streams (fun s hs => by
    have := v.str s hs
    unfold cost
    split
    · omega
    · have : min s.out.length s.window ≤ 100 := by omega
      omega)
  unfold Go.Abs.pot
  rw [v.rd, v.ct, v.len] at *
  simp only [List.length_nil]
  omega
theorem PInv.mb {w : Nat} {m : MuxS} {j : Nat} (v : PInv w m j) (hw : w ≤ 256) (hj : j ≤ 4) : MB m :=
  ⟨v.br, by rw [v.ct]; omega, by rw [v.rd]; decide, fun s hs => by have := v.str s hs; omega⟩
/-- The law: the pieces do not matter. -/
theorem pieces_law {w : Nat} {m : MuxS} {j : Nat} (v : PInv w m j) (hj : j ≤ 4) (n k : Nat) (hn : 2000 ≤ n) (hk : 2000 ≤ k) : (outB n m).1 = (outB k m).1 := by
  have := v.pot
  exact drained n k m (by omega) (by omega)
theorem findS_last {w : Nat} {m : MuxS} {j : Nat} (v : PInv w m j) (s : Strm) (hs : s.id = m.next) (m' : MuxS) (hm : m'.streams = m.streams ++ [s]) : findS m' m.next = (j : Int) := by
  rcases find_spec m' m.next with ⟨_, h⟩ | ⟨i, t, h1, h2, h3, h4⟩
  · exact absurd hs (h s (by rw [hm]; simp))
  · rw [h1]
    have hlt := (List.getElem?_eq_some_iff.1 h2).1
    rw [hm, List.length_append, v.len, List.length_singleton] at hlt
    by_cases hij : i < j
    · rw [hm, List.getElem?_append_left (by rw [v.len]; exact hij)] at h2
      have := (v.str t (List.mem_of_getElem? h2)).1
      omega
    · have : i = j := by omega
      rw [this]
theorem get_last {w : Nat} {m : MuxS} {j : Nat} (v : PInv w m j) (s : Strm) : (m.streams ++ [s])[j]? = some s := by
  rw [List.getElem?_append_right (by rw [v.len]; exact Nat.le_refl _), v.len, Nat.sub_self]; rfl
theorem set_last {w : Nat} {m : MuxS} {j : Nat} (v : PInv w m j) (s t : Strm) : (m.streams ++ [s]).set j t = m.streams ++ [t] := by
  rw [List.set_append_right (h := by rw [v.len]; exact Nat.le_refl _), v.len, Nat.sub_self]; rfl
end Go.Abs
