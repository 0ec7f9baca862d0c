/- Abs18: a region that draws its order: what is carried from operation to operation. Conditions: none. -/
import Derived.Test.YtknhmkijmbcnhaaAbs16
set_option linter.unusedVariables false
set_option linter.unusedSimpArgs false
namespace Go.Abs
structure PN (G : Nat → Option Nat) (B : Nat) (E E' : Env) (h h' : AHeap) (w w' : World) : Prop where
  le : E.le E'
  sim : Sim G B E' h' w'
  os : w'.os = w.os
  tape : w'.tape = w.tape
  output : w'.output = w.output
  size : w.heap.size ≤ w'.heap.size
  frame : ∀ x, x < w.heap.size → ¬ Wr E h x → w'.heap[x]? = w.heap[x]?
  wr : ∀ x, Wr E' h' x → Wr E h x ∨ w.heap.size ≤ x
  fresh : ∀ id e, E' id = some e → E id = none → Wr E h e.blk ∨ w.heap.size ≤ e.blk
section
variable {G : Nat → Option Nat} {B : Nat} {E E1 E2 : Env} {h h1 h2 : AHeap} {w w1 w2 : World}
theorem PN.of_post (p : Post G B E E1 h h1 w w1) : PN G B E E1 h h1 w w1 := ⟨p.le, p.sim, p.os, p.tape, p.output, p.size, p.frame, p.wr, p.fresh⟩
theorem PN.step (p : PN G B E E1 h h1 w w1) (q : PN G B E1 E2 h1 h2 w1 w2) : PN G B E E2 h h2 w w2 := by
  refine ⟨p.le.trans q.le, q.sim, q.os.trans p.os, q.tape.trans p.tape, q.output.trans p.output, Nat.le_trans p.size q.size, fun x hx hw => ?_, fun x hx => ?_, fun id e h1 h2 => ?_⟩
  · rw [q.frame x (Nat.lt_of_lt_of_le hx p.size) (fun h1 => ?_), p.frame x hx hw]
    rcases p.wr x h1 with h2 | h2
    · exact hw h2
    · omega
  · rcases q.wr x hx with h1 | h1
    · exact p.wr x h1
    · exact .inr (Nat.le_trans p.size h1)
  · cases h3 : E1 id with
    | none =>
      rcases q.fresh id e h1 h3 with h4 | h4
      · exact p.wr _ h4
      · exact .inr (Nat.le_trans p.size h4)
    | some e1 =>
      have := q.le id e1 h3
      rw [h1] at this; cases this
      exact p.fresh id e h3 h2
/-- A longer heap whose further blocks have no place yet. -/
theorem Sim.longer {t : AHeap} (s : Sim G B E h w) (hn : ∀ id, h.length ≤ id → id < (h ++ t).length → E id = none) : Sim G B E (h ++ t) w := by
  have key : ∀ (id : Nat) o e, (h ++ t)[id]? = some (some o) → E id = some e → h[id]? = some (some o) := by
    intro id o e h1 h2
    by_cases hlt : id < h.length
    · rwa [List.getElem?_append_left hlt] at h1
    · have := hn id (by omega) (List.getElem?_eq_some_iff.1 h1).1
      rw [h2] at this; cases this
  exact ⟨fun id o e h1 h2 => s.obj id o e (key id o e h1 h2) h2, fun id o e h1 h2 => s.low id o e (key id o e h1 h2) h2, fun i j oi oj ei ej hij h1 h2 h3 h4 => s.apart i j oi oj ei ej hij (key i oi ei h1 h3) (key j oj ej h2 h4) h3 h4, s.base, s.glob⟩
theorem Sim.shorter {t : AHeap} (s : Sim G B E (h ++ t) w) : Sim G B E h w := by
  have key : ∀ (id : Nat) (o : AObj), h[id]? = some (some o) → (h ++ t)[id]? = some (some o) := fun id o h1 => by
    rw [List.getElem?_append_left (List.getElem?_eq_some_iff.1 h1).1]; exact h1
  exact ⟨fun id o e h1 h2 => s.obj id o e (key id o h1) h2, fun id o e h1 h2 => s.low id o e (key id o h1) h2, fun i j oi oj ei ej hij h1 h2 h3 h4 => s.apart i j oi oj ei ej hij (key i oi h1) (key j oj h2) h3 h4, s.base, s.glob⟩
theorem Wr.longer {t : AHeap} {x : Nat} (hw : Wr E h x) : Wr E (h ++ t) x :=
  let ⟨id, o, e, h1, h2⟩ := hw
  ⟨id, o, e, by rw [List.getElem?_append_left (List.getElem?_eq_some_iff.1 h1).1]; exact h1, h2⟩
theorem Wr.shorter {t : AHeap} {x : Nat} (hn : ∀ id, h.length ≤ id → id < (h ++ t).length → E id = none) (hw : Wr E (h ++ t) x) : Wr E h x := by
  obtain ⟨id, o, e, h1, h2, h3, h4⟩ := hw
  by_cases hlt : id < h.length
  · rw [List.getElem?_append_left hlt] at h1; exact ⟨id, o, e, h1, h2, h3, h4⟩
  · have := hn id (by omega) (List.getElem?_eq_some_iff.1 h1).1
    rw [h3] at this; cases this
theorem PN.longer {t : AHeap} (p : PN G B E E1 h h1 w w1) (hn : ∀ id, h1.length ≤ id → id < (h1 ++ t).length → E1 id = none) : PN G B E E1 h (h1 ++ t) w w1 :=
  ⟨p.le, p.sim.longer hn, p.os, p.tape, p.output, p.size, p.frame, fun x hx => p.wr x (hx.shorter hn), p.fresh⟩
/-- An operation that only adds blocks, where further blocks (of operations that stand behind it in the text) lie already. -/
theorem PN.insert {s1 s2 : AHeap} (sq : Sim G B E (h ++ s1 ++ s2) w) (p : Post G B E E1 h (h ++ s1) w w1) : PN G B E E1 (h ++ s1 ++ s2) (h ++ s1 ++ s2) w w1 := by
  have hold : ∀ id e, (h ++ s1).length ≤ id → E1 id = some e → E id = some e := fun id e hge he => by
    by_cases hh : E1 id = E id
    · rw [← hh]; exact he
    · have := (p.new id hh).2; omega
  have hfirst : ∀ (id : Nat), id < (h ++ s1).length → (h ++ s1 ++ s2)[id]? = (h ++ s1)[id]? := fun id hlt => List.getElem?_append_left hlt
  have hwr : ∀ x, Wr E h x → Wr E (h ++ s1 ++ s2) x := fun x hx => hx.longer.longer
  have hkeep : ∀ (id : Nat) o e, (h ++ s1).length ≤ id → (h ++ s1 ++ s2)[id]? = some (some o) → E id = some e → w1.heap[e.blk]? = w.heap[e.blk]? := fun id o e hge h1 h2 => by
    refine p.frame _ (sq.obj id o e h1 h2).lt ?_
    rintro ⟨id', o', e', g1, g2, g3, g4⟩
    have hlt := (List.getElem?_eq_some_iff.1 g1).1
    have hne : id' ≠ id := by intro hh; subst hh; simp at hge; omega
    refine sq.apart id' id o' o e' e hne ?_ h1 g3 h2 g2 g4
    rw [List.append_assoc, List.getElem?_append_left hlt]; exact g1
  have fresh2 : ∀ (i j : Nat) oj ei ej, i < (h ++ s1).length → (h ++ s1).length ≤ j → (h ++ s1 ++ s2)[j]? = some (some oj) → E1 i = some ei → E i = none → E j = some ej → ei.blk ≠ ej.blk := by
    intro i j oj ei ej hi hj h2 h3 hn h4 hh
    rcases p.fresh i ei h3 hn with ⟨id', o', e', g1, g2, g3, g4⟩ | h6
    · have hlt := (List.getElem?_eq_some_iff.1 g1).1
      have hne : id' ≠ j := by intro hh; subst hh; simp at hj; omega
      refine sq.apart id' j o' oj e' ej hne ?_ h2 g3 h4 g2 (g4.trans hh)
      rw [List.append_assoc, List.getElem?_append_left hlt]; exact g1
    · have := (sq.obj j oj ej h2 h4).lt
      omega
  refine ⟨p.le, ⟨?_, ?_, ?_, p.sim.base, p.sim.glob⟩, p.os, p.tape, p.output, p.size, ?_, ?_, ?_⟩
  · intro id o e h1 h2
    by_cases hlt : id < (h ++ s1).length
    · rw [hfirst id hlt] at h1; exact p.sim.obj id o e h1 h2
    · have h3 := hold id e (by omega) h2
      exact (sq.obj id o e h1 h3).mono p.le (hkeep id o e (by omega) h1 h3)
  · intro id o e h1 h2 h3
    by_cases hlt : id < (h ++ s1).length
    · rw [hfirst id hlt] at h1; exact p.sim.low id o e h1 h2 h3
    · exact sq.low id o e h1 (hold id e (by omega) h2) h3
  · intro i j oi oj ei ej hij h1 h2 h3 h4 h5
    by_cases hi : i < (h ++ s1).length
    · by_cases hj : j < (h ++ s1).length
      · rw [hfirst i hi] at h1; rw [hfirst j hj] at h2; exact p.sim.apart i j oi oj ei ej hij h1 h2 h3 h4 h5
      · have h6 := hold j ej (by omega) h4
        cases h7 : E i with
        | none => exact fresh2 i j oj ei ej hi (by omega) h2 h3 h7 h6
        | some e' =>
          have := p.le i e' h7; rw [h3] at this; cases this
          exact sq.apart i j oi oj ei ej hij h1 h2 h7 h6 h5
    · have h6 := hold i ei (by omega) h3
      by_cases hj : j < (h ++ s1).length
      · cases h7 : E j with
        | none => exact fun hh => fresh2 j i oi ej ei hj (by omega) h1 h4 h7 h6 hh.symm
        | some e' =>
          have := p.le j e' h7; rw [h4] at this; cases this
          exact sq.apart i j oi oj ei ej hij h1 h2 h6 h7 h5
      · exact sq.apart i j oi oj ei ej hij h1 h2 h6 (hold j ej (by omega) h4) h5
  · intro x hx hw
    exact p.frame x hx (fun hh => hw (hwr x hh))
  · rintro x ⟨id, o, e, h1, h2, h3, h4⟩
    by_cases hlt : id < (h ++ s1).length
    · rw [hfirst id hlt] at h1
      rcases p.wr x ⟨id, o, e, h1, h2, h3, h4⟩ with h5 | h5
      · exact .inl (hwr x h5)
      · exact .inr h5
    · exact .inl ⟨id, o, e, h1, h2, hold id e (by omega) h3, h4⟩
  · intro id e h1 h2
    rcases p.fresh id e h1 h2 with h3 | h3
    · exact .inl (hwr _ h3)
    · exact .inr h3
end
/-! ### the frame, as an operation sees it -/
def pick (L : List Nat) (f : AFrame) : AFrame := L.foldl (fun acc t => fset acc t (fget f t)) []
theorem pick_get (f : AFrame) : ∀ (L : List Nat) (acc : AFrame) (t : Nat), fget (L.foldl (fun acc t => fset acc t (fget f t)) acc) t = if t ∈ L then fget f t else fget acc t
  | [], acc, t => by simp
  | u :: L, acc, t => by
    simp only [List.foldl_cons]
    rw [pick_get f L]
    by_cases h1 : t ∈ L
    · rw [if_pos h1, if_pos (by simp [h1])]
    · rw [if_neg h1]
      by_cases h2 : t = u
      · subst h2; rw [fget_fset_same, if_pos (by simp)]
      · rw [fget_fset_ne _ _ _ _ h2, if_neg (by simp [h1, h2])]
def pickAct (L : List Nat) (a : Act) : Act := { a with tmps := (Array.range a.tmps.size).map fun t => if t ∈ L then a.tmps.getD t undef else undef }
theorem pickAct_get (L : List Nat) (a : Act) (t : Nat) : (pickAct L a).tmps.getD t undef = if t ∈ L then a.tmps.getD t undef else undef := by
  simp only [pickAct, Array.getD_eq_getD_getElem?]
  by_cases ht : t < a.tmps.size
  · simp only [Array.getElem?_map, Array.getElem?_range, ht, if_true, Option.map_some, Option.getD_some]
  · rw [Array.getElem?_eq_none (by simp; omega), Array.getElem?_eq_none (by omega)]
    simp
theorem pickAct_get? (L : List Nat) (a : Act) (t : Nat) (ht : t ∈ L) : (pickAct L a).tmps[t]? = a.tmps[t]? := by
  simp only [pickAct]
  by_cases h : t < a.tmps.size
  · simp only [Array.getElem?_map, Array.getElem?_range, h, if_true, Option.map_some, ht]
    simp [h]
  · rw [Array.getElem?_eq_none (by simp; omega), Array.getElem?_eq_none (by omega)]
theorem pick_FR {E : Env} {n : Nat} {L : List Nat} {f : AFrame} {a : Act} (hn : n ≤ a.tmps.size) (h : ∀ t, t ∈ L → VR E (fget f t) (a.tmps.getD t undef)) : FR E n (pick L f) (pickAct L a).tmps := by
  refine ⟨by simpa [pickAct] using hn, fun t => ?_⟩
  rw [pickAct_get, pick, pick_get]
  split
  · rename_i ht; exact h t ht
  · rw [fget_nil]; exact VR.undef E
theorem evA_pick {c : Ctx} {L : List Nat} {f : AFrame} {x : Operand} (h : ∀ t, x = .tmp t → t ∈ L) : evA c (pick L f) x = evA c f x := by
  cases x with
  | tmp t => simp only [evA, pick, pick_get, if_pos (h t rfl)]
  | _ => rfl
theorem eval_pick {L : List Nat} {a : Act} {x : Operand} (h : ∀ t, x = .tmp t → t ∈ L) : (pickAct L a).eval x = a.eval x := by
  cases x with
  | tmp t => simp only [Act.eval, pickAct_get, if_pos (h t rfl)]
  | _ => rfl
theorem looks_op {ops : Array Oper} {o : Oper} {t : Nat} (h : Operand.tmp t ∈ o.op.operands) : t ∈ o.looksAt ops :=
  List.mem_append_left _ (List.mem_filterMap.2 ⟨.tmp t, by simpa using h, rfl⟩)
theorem want_pick {ops : Array Oper} {o : Oper} {f : AFrame} : wantA ops (pick (o.looksAt ops) f) o = wantA ops f o := by
  unfold wantA
  cases hg : o.guard with
  | none => rfl
  | some jw =>
    obtain ⟨j, want⟩ := jw
    simp only
    cases hd : (ops[j]?).bind (·.dst) with
    | none => rfl
    | some t =>
      have ht : t ∈ o.looksAt ops := by simp [Oper.looksAt, hg, hd]
      simp only [pick, pick_get, if_pos ht]
theorem wanted_pick {ops : Array Oper} {o : Oper} {a : Act} : Region.wanted o (yielded ops (pickAct (o.looksAt ops) a).tmps) = Region.wanted o (yielded ops a.tmps) := by
  unfold Region.wanted
  cases hg : o.guard with
  | none => rfl
  | some jw =>
    obtain ⟨j, want⟩ := jw
    simp only [yielded]
    cases hd : (ops[j]?).bind (·.dst) with
    | none => rfl
    | some t =>
      have ht : t ∈ o.looksAt ops := by simp [Oper.looksAt, hg, hd]
      simp only [Option.bind_some, pickAct_get? _ _ _ ht]
end Go.Abs
