/- MxS: ends of a multiplexer as they lie in the abstract heap. Conditions: none. -/
import Derived.Test.YtknhmkijmbcnhaaMxTy
import Derived.Test.YtknhmkijmbcnhaaAbs28
set_option linter.unusedSimpArgs false
set_option maxRecDepth 100000
set_option linter.unusedVariables false
namespace Go.Abs
open Go.Proofs
@[reducible] noncomputable def cx : Ctx := { P := Try.prog, G := fun _ => none, prim := fun _ => none }
structure Strm where
  id : Nat
  head : List UInt8
  out : List UInt8
  inn : List UInt8
  window : Nat
  room : Nat
  taken : Nat
  ends : Bool
  ended : Bool
  over : Bool
  reset : Bool
structure MuxS where
  first : Bool
  window : Nat
  next : Nat
  streams : List Strm
  control : List UInt8
  ready : List UInt8
  turn : Nat
  got : List UInt8
  broken : Bool
def strmC (s : Strm) : List Value := [.int .i64 s.id, .string (str s.head), .string (str s.out), .string (str s.inn), .int .i64 s.window, .int .i64 s.room, .int .i64 s.taken, .bool s.ends, .bool s.ended, .bool s.over, .bool s.reset]
def slA (sb : Option Nat) : Option Addr := sb.map fun b => ⟨b, 0, none⟩
def muxC (m : MuxS) (sl : Value) : List Value := [.bool m.first, .int .i64 m.window, .int .i64 m.next, sl, .string (str m.control), .string (str m.ready), .int .i64 m.turn, .string (str m.got), .bool m.broken]
def ptrC (b : Nat) : Value := .pointer (some ⟨b, 0, none⟩)
/-- An end at p: its streams' slice, the blocks of its streams. -/
structure MuxAt (h : AHeap) (p : Nat) (sb : Option Nat) (ids : List Nat) (m : MuxS) : Prop where
  top : blkA h p = some ⟨muxC m (.slice (slA sb) ids.length ids.length), 9, false⟩
  sl : (sb = none ∧ ids = []) ∨ ∃ b, sb = some b ∧ blkA h b = some ⟨ids.map ptrC, 1, false⟩
  len : ids.length = m.streams.length
  str : ∀ (i : Nat) s b, m.streams[i]? = some s → ids[i]? = some b → blkA h b = some ⟨strmC s, 11, false⟩
  nd : (p :: (sb.toList ++ ids)).Nodup
/-- The blocks of an end. -/
def foot (p : Nat) (sb : Option Nat) (ids : List Nat) : List Nat := p :: (sb.toList ++ ids)
section
variable {h : AHeap} {p : Nat} {sb : Option Nat} {ids : List Nat} {m : MuxS}
theorem MuxAt.lt (a : MuxAt h p sb ids m) : p < h.length := blkA_lt a.top
theorem MuxAt.fl (a : MuxAt h p sb ids m) : ∀ q, q ∈ foot p sb ids → q < h.length := by
  intro q hq
  unfold foot at hq
  rcases List.mem_cons.1 hq with rfl | hq
  · exact a.lt
  rcases List.mem_append.1 hq with hq | hq
  · rcases a.sl with ⟨h1, _⟩ | ⟨b, h1, h2⟩
    · rw [h1] at hq; simp at hq
    · rw [h1] at hq; simp at hq; subst hq; exact blkA_lt h2
  · obtain ⟨i, hi⟩ := List.getElem?_of_mem hq
    have hlt := (List.getElem?_eq_some_iff.1 hi).1
    obtain ⟨s, hs⟩ : ∃ s, m.streams[i]? = some s := ⟨_, List.getElem?_eq_getElem (by rw [← a.len]; exact hlt)⟩
    exact blkA_lt (a.str i s q hs hi)
theorem MuxAt.same {h' : AHeap} (a : MuxAt h p sb ids m) (hs : ∀ q, q ∈ foot p sb ids → h'[q]? = h[q]?) : MuxAt h' p sb ids m := by
  have key : ∀ q k, q ∈ foot p sb ids → blkA h q = some k → blkA h' q = some k := by
    intro q k hq hb; unfold blkA at hb ⊢; rw [hs q hq]; exact hb
  refine ⟨key p _ (by simp [foot]) a.top, ?_, a.len, fun i s b h1 h2 => key b _ (by have := List.mem_of_getElem? h2; simp [foot, this]) (a.str i s b h1 h2), a.nd⟩
  rcases a.sl with h1 | ⟨b, h1, h2⟩
  · exact .inl h1
  · exact .inr ⟨b, h1, key b _ (by simp [foot, h1]) h2⟩
theorem MuxAt.ext {h' : AHeap} (a : MuxAt h p sb ids m) (e : Ext h h') : MuxAt h' p sb ids m := a.same fun q hq => e.get (a.fl q hq)
theorem MuxAt.app (a : MuxAt h p sb ids m) (g : AHeap) : MuxAt (h ++ g) p sb ids m := a.ext (.app h g)
/-- Another end's change leaves it as it was. -/
theorem MuxAt.upd {h' : AHeap} {F F' : List Nat} (a : MuxAt h p sb ids m) (u : Upd h h' F F') (hd : ∀ q, q ∈ foot p sb ids → q ∉ F) : MuxAt h' p sb ids m := a.same fun q hq => u.same q (a.fl q hq) (hd q hq)
theorem MuxAt.setTop (a : MuxAt h p sb ids m) {m' : MuxS} (hm : m'.streams = m.streams) : MuxAt (h.set p (some (.cells ⟨muxC m' (.slice (slA sb) ids.length ids.length), 9, false⟩))) p sb ids m' := by
  have hn := a.nd
  rw [List.nodup_cons] at hn
  have ne : ∀ q, q ∈ sb.toList ++ ids → q ≠ p := fun q hq e => hn.1 (e ▸ hq)
  refine ⟨blk_setB0 a.lt, ?_, by rw [hm]; exact a.len, fun i s b h1 h2 => ?_, a.nd⟩
  · rcases a.sl with h1 | ⟨b, h1, h2⟩
    · exact .inl h1
    · exact .inr ⟨b, h1, by rw [blk_setN0 (ne b (by simp [h1]))]; exact h2⟩
  · rw [blk_setN0 (ne b (by have := List.mem_of_getElem? h2; simp [this]))]
    rw [hm] at h1
    exact a.str i s b h1 h2
theorem MuxAt.ne (a : MuxAt h p sb ids m) {i b : Nat} (hi : ids[i]? = some b) : b ≠ p := by
  have hn := a.nd
  rw [List.nodup_cons] at hn
  intro e
  exact hn.1 (by rw [← e]; have := List.mem_of_getElem? hi; simp [this])
theorem MuxAt.setStr (a : MuxAt h p sb ids m) {i b : Nat} (hi : ids[i]? = some b) (s' : Strm) : MuxAt (h.set b (some (.cells ⟨strmC s', 11, false⟩))) p sb ids { m with streams := m.streams.set i s' } := by
  have hn := a.nd
  rw [List.nodup_cons] at hn
  have hbm := List.mem_of_getElem? hi
  have hbl : b < h.length := a.fl b (by simp [foot, hbm])
  have hpb : p ≠ b := fun e => hn.1 (by rw [e]; simp [hbm])
  have hn2 := hn.2
  rw [List.nodup_append] at hn2
  refine ⟨by rw [blk_setN0 hpb]; exact a.top, ?_, by simp only [List.length_set]; exact a.len, fun j s c h1 h2 => ?_, a.nd⟩
  · rcases a.sl with h1 | ⟨c, h1, h2⟩
    · exact .inl h1
    · refine .inr ⟨c, h1, ?_⟩
      rw [blk_setN0 (hn2.2.2 c (by simp [h1]) b hbm)]; exact h2
  · simp only at h1
    by_cases hij : i = j
    · subst hij
      rw [hi] at h2; cases h2
      rw [List.getElem?_set_self (by rw [← a.len]; exact (List.getElem?_eq_some_iff.1 hi).1)] at h1
      cases h1
      exact blk_setB0 hbl
    · rw [List.getElem?_set_ne hij] at h1
      have hcb : c ≠ b := by
        intro e
        subst e
        have h3 := (List.getElem?_inj (List.getElem?_eq_some_iff.1 hi).1 hn2.2.1).1 (hi.trans h2.symm)
        exact hij h3
      rw [blk_setN0 hcb]
      exact a.str j s c h1 h2
end
end Go.Abs
