/- MuxWindow, part 6 of 6: the proof of the law, for every input. Conditions: none. -/
import Derived.Test.YtknhmkijmbcnhaaJMuxWindow5
import Derived.Test.YtknhmkijmbcnhaaJMuxWindow4
import Derived.Carry
set_option linter.unusedSimpArgs false
set_option linter.unusedVariables false
/- Mx21: two joined ends, on lists: rounds, until all has arrived. Conditions: none. -/
set_option maxRecDepth 100000
set_option linter.unusedSimpArgs false
set_option linter.unusedVariables false
namespace Go.Abs
open Go.Proofs
/-- All streams are read, one after the other. -/
def readGo : Nat → Nat → MuxS → List (List UInt8) → MuxS × List (List UInt8)
  | 0, _, m, L => (m, L)
  | r + 1, k, m, L => match m.streams[k]? with
    | some s => readGo r (k + 1) (readM m k s s.id (min 4096 s.inn.length)) (talkL L k (s.inn.take (min 4096 s.inn.length)))
    | none => (m, L)
def readAll (m : MuxS) (L : List (List UInt8)) : MuxS × List (List UInt8) := readGo m.streams.length 0 m L
theorem readGo_some {m : MuxS} {k : Nat} {s : Strm} (h : m.streams[k]? = some s) (r : Nat) (L : List (List UInt8)) : readGo (r + 1) k m L = readGo r (k + 1) (readM m k s s.id (min 4096 s.inn.length)) (talkL L k (s.inn.take (min 4096 s.inn.length))) := by
  rw [readGo, h]
section
variable {w : Nat} {T : List Pl} {x y : List UInt8} {a : MuxS} {F : List Fr}
theorem J.readOn : ∀ (r k : Nat) {R : List (List UInt8)} {b : MuxS} {B : List Strm} {G : List Fr}, J w T R x y a b F B G → r + k = b.streams.length → k ≤ R.length → (∀ i s, i < k → b.streams[i]? = some s → s.inn = []) →
    ∃ B' G', J w T (readGo r k b R).2 x y a (readGo r k b R).1 F B' G' ∧ (readGo r k b R).1.control.length + 7 * left T (readGo r k b R).2 ≤ b.control.length + 7 * left T R ∧ (readGo r k b R).1.ready = b.ready ∧
      (readGo r k b R).1.streams.length = b.streams.length ∧ (∀ s, s ∈ (readGo r k b R).1.streams → s.inn = []) ∧ b.streams.length ≤ (readGo r k b R).2.length := by
  intro r
  induction r with
  | zero =>
    intro k R b B G j hk hR hi
    refine ⟨B, G, j, Nat.le_refl _, rfl, rfl, fun s hs => ?_, by simp only [Go.Abs.readGo]; omega⟩
    obtain ⟨i, h⟩ := List.getElem?_of_mem hs
    exact hi i s (by have := (List.getElem?_eq_some_iff.1 h).1; simp only [Go.Abs.readGo] at this; omega) h
  | succ r ih =>
    intro k R b B G j hk hR hi
    obtain ⟨s, hs⟩ : ∃ s, b.streams[k]? = some s := ⟨_, List.getElem?_eq_getElem (by omega)⟩
    have hsl := (j.bk s (List.mem_of_getElem? hs)).sum
    have hw2 := j.w2
    have hmin : min 4096 s.inn.length = s.inn.length := by omega
    rw [readGo_some hs, hmin, List.take_length]
    obtain ⟨B1, G1, j1, p1, p2, p3, ⟨s', p4, p5⟩, p6⟩ := j.readB hs hR
    have hlen : (talkL R k s.inn).length = max R.length (k + 1) := (talkL_spec s.inn hR).1
    obtain ⟨B2, G2, q1, q2, q3, q4, q5, q6⟩ := ih (k + 1) j1 (by rw [p3]; omega) (by rw [hlen]; omega) (fun i t hik ht => by
      by_cases he : i = k
      · subst he; rw [p4] at ht; cases ht; exact p5
      · rw [p6 i he] at ht; exact hi i t (by omega) ht)
    exact ⟨B2, G2, q1, by omega, by rw [q3, p2], by rw [q4, p3], q5, by rw [p3] at q6; exact q6⟩
end
/-- An end to which nothing has come reads nothing. -/
theorem read_none (m : MuxS) (hw : 1 ≤ m.window) (hs : ∀ s, s ∈ m.streams → s.inn = [] ∧ s.taken = 0) : ∀ (r k : Nat) (L : List (List UInt8)), (readGo r k m L).1 = m := by
  intro r
  induction r with
  | zero => intro k L; rfl
  | succ r ih =>
    intro k L
    cases h : m.streams[k]? with
    | none => rw [readGo, h]
    | some s =>
      rw [readGo_some h]
      obtain ⟨h1, h2⟩ := hs s (List.mem_of_getElem? h)
      have e : readM m k s s.id (min 4096 s.inn.length) = m := by
        unfold readM
        rw [if_neg (by rintro ⟨h3, _⟩; rw [h1, h2] at h3; simp at h3; omega)]
        have : { s with inn := s.inn.drop (min 4096 s.inn.length), taken := s.taken + min 4096 s.inn.length } = s := by
          rw [h1]; simp only [List.drop_nil, List.length_nil, Nat.min_zero, Nat.add_zero]
          rw [← h1]
        rw [this, set_same h]
      rw [e]
      exact ih _ _
structure Clean (a b : MuxS) : Prop where
  ar : a.ready = []
  ac : a.control = []
  br : b.ready = []
  bc : b.control = []
  ag : a.got = []
  bg : b.got = []
  inn : ∀ s, s ∈ b.streams → s.inn = []
def Fin (a : MuxS) : Prop := ∀ s, s ∈ a.streams → s.reset = true ∨ s.ended = true
def Phi (T : List Pl) (R : List (List UInt8)) (a b : MuxS) : Nat := pA a + b.ready.length + b.control.length + 7 * left T R
def Prog (k C : Nat) (T : List Pl) (R : List (List UInt8)) (a b : MuxS) : Prop := (Clean a b ∧ Fin a) ∨ (Clean a b ∧ Phi T R a b + 5 * k ≤ C) ∨ Phi T R a b + 5 * k + 5 ≤ C
theorem encF_empty {F : List Fr} (h : encF F = []) : F = [] := by
  cases F with
  | nil => rfl
  | cons f F =>
    have := congrArg List.length h
    rw [encF_cons, List.length_append, enc_len] at this
    simp at this
theorem sum_zero {α : Type} (f : α → Nat) : ∀ l : List α, (∀ x, x ∈ l → f x = 0) → (l.map f).sum = 0
  | [], _ => rfl
  | x :: l, h => by rw [List.map_cons, List.sum_cons, h x (by simp), sum_zero f l (fun z hz => h z (by simp [hz]))]
theorem out_fin : ∀ (k : Nat) (m : MuxS), Fin m → Fin (outB k m).2 := by
  intro k
  induction k with
  | zero => intro m h; exact h
  | succ k ih =>
    intro m h
    rcases outB_next (m := m) k with ⟨h1, h2⟩ | ⟨m1, c, r, h1, h2, h3⟩
    · rw [h2]; exact h
    · rw [h3]
      refine ih _ ?_
      have : Fin m1 := by
        rcases ready_or h1 with rfl | ⟨hr, hf⟩
        · exact h
        · rcases fillS_spec hf with ⟨hc, rfl⟩ | ⟨hc, i, s, hs, hch, rfl⟩
          · exact h
          · intro t ht
            simp only at ht
            rcases List.mem_or_eq_of_mem_set ht with ht | rfl
            · exact h t ht
            · rcases h s (List.mem_of_getElem? hs) with hh | hh
              · exact .inl (by rw [(chunk_flags s).2.1]; exact hh)
              · unfold chunkS at hch; rw [if_pos (.inr hh)] at hch; simp at hch
      exact this
section
variable {w : Nat} {T : List Pl} {R : List (List UInt8)} {a b : MuxS} {F : List Fr} {B : List Strm} {G : List Fr}
/-- Nothing is on the way. -/
theorem J.still (j : J w T R [] [] a b F B G) (c : Clean a b) : F = [] ∧ G = [] ∧ b.streams = B := by
  have h1 := j.wireF
  rw [c.bg, c.ar, c.ac] at h1
  have hF := encF_empty h1.symm
  have h2 := j.wireG
  rw [c.ag, c.br, c.bc] at h2
  have hG := encF_empty h2.symm
  refine ⟨hF, hG, ?_⟩
  have := j.appF
  rw [hF, appL] at this
  exact Option.some.inj this
theorem J.done (j : J w T R [] [] a b F B G) (c : Clean a b) (f : Fin a) : b.streams.length = T.length ∧ (∀ s, s ∈ a.streams → s.out = []) ∧ ∀ i t, T[i]? = some t → ∃ sb, b.streams[i]? = some sb ∧ sb.id = 2 * i + 1 ∧ sb.head = t.head ∧ sb.reset = t.reset ∧ sb.inn = [] ∧ (t.reset = false → sb.over = true) ∧ rd R i = t.text := by
  obtain ⟨hF, hG, hB⟩ := j.still c
  have hout : ∀ s, s ∈ a.streams → s.out = [] := by
    intro s hs
    obtain ⟨i, hi⟩ := List.getElem?_of_mem hs
    obtain ⟨sb, t, h1, h2, r⟩ := j.at hi
    rcases f s hs with hh | hh
    · have h3 := (j.tr t (List.mem_of_getElem? h2)).1 (by rw [← r.rs]; exact hh)
      have h4 := r.txt
      rw [h3] at h4
      have := congrArg List.length h4
      simp at this
      exact List.length_eq_zero_iff.1 (by omega)
    · exact r.end1 hh
  refine ⟨by rw [hB]; exact j.lenB, hout, fun i t ht => ?_⟩
  have hl := (List.getElem?_eq_some_iff.1 ht).1
  obtain ⟨sa, hsa⟩ : ∃ sa, a.streams[i]? = some sa := ⟨_, List.getElem?_eq_getElem (by have := j.n; omega)⟩
  obtain ⟨sb, t', h1, h2, r⟩ := j.at hsa
  rw [ht] at h2; cases h2
  have hb : b.streams[i]? = some sb := by rw [hB]; exact h1
  have hinn := c.inn sb (List.mem_of_getElem? hb)
  refine ⟨sb, hb, j.idsb i sb hb, by rw [r.head, r.hd], by rw [r.rst, r.rs], hinn, fun hr => ?_, ?_⟩
  · rcases f sa (List.mem_of_getElem? hsa) with hh | hh
    · rw [r.rs, hr] at hh; cases hh
    · rw [r.over]; exact hh
  · have := r.txt
    rw [hinn, hout sa (List.mem_of_getElem? hsa)] at this
    simpa using this.symm
theorem J.zero (j : J w T R [] [] a b F B G) (c : Clean a b) (f : Fin a) : Phi T R a b = 0 := by
  obtain ⟨h1, h2, h3⟩ := j.done c f
  unfold Phi pA
  rw [c.ar, c.ac, c.br, c.bc]
  have e1 : (a.streams.map cA).sum = 0 := sum_zero _ _ fun s hs => by
    unfold cA
    rw [h2 s hs, if_pos (f s hs)]; rfl
  have e2 : left T R = 0 := by
    unfold left
    refine sum_zero _ _ fun i hi => ?_
    rw [List.mem_range] at hi
    obtain ⟨t, ht⟩ : ∃ t, T[i]? = some t := ⟨_, List.getElem?_eq_getElem hi⟩
    obtain ⟨sb, _, _, _, _, _, _, q⟩ := h3 i t ht
    unfold txt
    rw [q, ht]
    simp
  rw [e1, e2]; rfl
/-- Who is not done can send. -/
theorem J.more (j : J w T R [] [] a b F B G) (c : Clean a b) (hT : ∀ t, t ∈ T → t.ends = true ∨ t.reset = true) (f : ¬ Fin a) {n : Nat} (hn : 5 ≤ n) : 5 ≤ (outB n a).1.length := by
  obtain ⟨hF, hG, hB⟩ := j.still c
  have : ∃ s, s ∈ a.streams ∧ ¬ (s.reset = true ∨ s.ended = true) := by
    apply Classical.byContradiction
    intro h
    exact f fun s hs => Classical.byContradiction fun h2 => h ⟨s, hs, h2⟩
  obtain ⟨s, hs, hne⟩ := this
  refine out_five hn c.ar c.ac hs ?_
  obtain ⟨i, hi⟩ := List.getElem?_of_mem hs
  obtain ⟨sb, t, h1, h2, r⟩ := j.at hi
  have hre : s.reset = false := by cases hh : s.reset; rfl; exact absurd (.inl hh) hne
  have hen : s.ended = false := by cases hh : s.ended; rfl; exact absurd (.inr hh) hne
  have hb : b.streams[i]? = some sb := by rw [hB]; exact h1
  have hinn := c.inn sb (List.mem_of_getElem? hb)
  have htk := (j.bk sb (List.mem_of_getElem? hb)).tk (by rw [r.over]; exact hen) (by rw [r.rst]; exact hre)
  have hwin := r.win
  have hroom := r.room
  rw [hG, gsum_nil] at hwin
  rw [hinn] at hroom
  simp only [List.length_nil] at hroom
  have hends : s.ends = true := by
    rw [r.en]
    rcases hT t (List.mem_of_getElem? h2) with hh | hh
    · exact hh
    · rw [← r.rs, hre] at hh; cases hh
  unfold chunkS
  rw [if_neg hne]
  by_cases h3 : 0 < most64 s
  · rw [if_pos h3]; simp [frameS]
  · rw [if_neg h3]
    have hout : s.out = [] := by
      unfold most64 at h3
      exact List.length_eq_zero_iff.1 (by omega)
    rw [if_pos ⟨hends, hout⟩]; simp [frameS]
/-- A round. -/
theorem J.round (j : J w T R [] [] a b F B G) {n : Nat} (h10 : 10 ≤ n) (h99 : n ≤ 4096) (hT : ∀ t, t ∈ T → t.ends = true ∨ t.reset = true) (Ra : List (List UInt8)) :
    ∃ b1 a1, inS b (outB n a).1 = (0, b1) ∧ inS (outB n a).2 (outB n (readAll b1 R).1).1 = (0, a1) ∧ (readAll a1 Ra).1 = a1 ∧
      (∃ F' B' G', J w T R [] [] (outB n a).2 b1 F' B' G') ∧ (∃ F' B' G', J w T (readAll b1 R).2 [] [] (outB n a).2 (readAll b1 R).1 F' B' G') ∧
      (∃ F' B' G', J w T (readAll b1 R).2 [] (outB n (readAll b1 R).1).1 (outB n a).2 (outB n (readAll b1 R).1).2 F' B' G') ∧
      (∃ F' B' G', J w T (readAll b1 R).2 [] [] a1 (outB n (readAll b1 R).1).2 F' B' G') ∧
      Phi T R (outB n a).2 b1 ≤ Phi T R a b ∧ Phi T (readAll b1 R).2 a1 (outB n (readAll b1 R).1).2 ≤ Phi T R a b ∧ Phi T (readAll b1 R).2 (outB n a).2 (readAll b1 R).1 ≤ Phi T R a b ∧
      (∀ k C, Prog k C T R a b → Prog (k + 1) C T (readAll b1 R).2 a1 (outB n (readAll b1 R).1).2) ∧ (readAll b1 R).2.length = (outB n (readAll b1 R).1).2.streams.length := by
  obtain ⟨F1, B1, j1⟩ := j.outA n
  rw [List.nil_append] at j1
  have lo := outB_len n a
  obtain ⟨ss, g, F2, e2, j2, c2, _⟩ := j1.inB (by omega)
  obtain ⟨b1, hb1⟩ : ∃ b1 : MuxS, { b with streams := ss, got := g } = b1 := ⟨_, rfl⟩
  have hbr : b1.ready = b.ready ∧ b1.control = b.control ∧ b1.got = g := by rw [← hb1]; exact ⟨rfl, rfl, rfl⟩
  rw [hb1] at e2 j2
  obtain ⟨B3, G3, j3, p3, r3, l3, i3, n3⟩ := j2.readOn b1.streams.length 0 (by omega) (Nat.zero_le _) (fun i s h _ => by omega)
  have hra : readGo b1.streams.length 0 b1 R = readAll b1 R := rfl
  rw [hra] at j3 p3 r3 l3 i3 n3
  obtain ⟨S, hS⟩ : ∃ S, readAll b1 R = S := ⟨_, rfl⟩
  obtain ⟨b2, R2⟩ := S
  rw [hS] at j3 p3 r3 l3 i3 n3
  simp only at j3 p3 r3 l3 i3 n3
  refine ⟨b1, ?_⟩
  rw [hS]
  simp only
  have hgot2 : b2.got = b1.got := by
    have : ∀ (r k : Nat) (m : MuxS) (L : List (List UInt8)), (readGo r k m L).1.got = m.got := by
      intro r
      induction r with
      | zero => intro k m L; rfl
      | succ r ih =>
        intro k m L
        cases h : m.streams[k]? with
        | none => rw [readGo, h]
        | some s => rw [readGo_some h, ih]; unfold readM; split <;> rfl
    have h := this b1.streams.length 0 b1 R
    rw [hra, hS] at h
    exact h
  obtain ⟨r4, c4, e4, w4, d4⟩ := out_quiet n b2 (fun s hs => bk_quiet (j3.bk s hs))
  have lo2 := outB_len n b2
  have j4 : J w T R2 [] (outB n b2).1 (outB n a).2 (outB n b2).2 F2 B3 G3 := by
    rw [e4]
    refine { j3 with wireG := ?_ }
    have := j3.wireG
    simp only [List.nil_append] at this
    simp only
    rw [w4, this]
  obtain ⟨G5a, g5, G5, hG5, e5, j5, c5⟩ := j4.inA (by omega)
  obtain ⟨a1, ha1⟩ : ∃ a1 : MuxS, { (outB n a).2 with streams := (outB n a).2.streams.map (addW G5a), got := g5 } = a1 := ⟨_, rfl⟩
  have har : a1.ready = (outB n a).2.ready ∧ a1.control = (outB n a).2.control ∧ a1.got = g5 ∧ pA a1 = pA (outB n a).2 ∧ (Fin (outB n a).2 → Fin a1) := by
    rw [← ha1]
    refine ⟨rfl, rfl, rfl, ?_, fun h s hs => ?_⟩
    · unfold pA
      simp only [List.map_map]
      rfl
    · simp only at hs
      obtain ⟨s0, h0, rfl⟩ := List.mem_map.1 hs
      exact h s0 h0
  rw [ha1] at e5 j5
  have hpo := out_pA n a
  have hphi : Phi T R2 a1 (outB n b2).2 + (outB n a).1.length + (outB n b2).1.length ≤ Phi T R a b := by
    have := congrArg List.length w4
    simp only [List.length_append] at this
    unfold Phi
    rw [har.2.2.2.1, e4]
    simp only
    rw [r3, hbr.1] at this
    rw [hbr.2.1] at p3
    omega
  have hphi2 : Phi T R (outB n a).2 b1 ≤ Phi T R a b := by
    unfold Phi; rw [hbr.1, hbr.2.1]; omega
  have hphi3 : Phi T R2 (outB n a).2 b2 ≤ Phi T R a b := by
    unfold Phi; rw [r3, hbr.1]; rw [hbr.2.1] at p3; omega
  have hclean : (outB n a).1.length < n → (outB n b2).1.length < n → Clean a1 (outB n b2).2 := by
    intro h1 h2
    obtain ⟨d1, d2⟩ := out_drain n a h1
    have d3 := (fillS_none d2).1
    obtain ⟨d5, d6⟩ := d4 h2
    obtain ⟨d7, _⟩ := c2 d1 d3
    have e4' := e4
    rw [d5, d6] at e4'
    obtain ⟨d8, _⟩ := c5 (by rw [e4']) (by rw [e4'])
    refine ⟨by rw [har.1]; exact d1, by rw [har.2.1]; exact d3, by rw [e4'], by rw [e4'], by rw [har.2.2.1]; exact d8, ?_, ?_⟩
    · rw [e4']; simp only; rw [hgot2, hbr.2.2]; exact d7
    · rw [e4']; exact i3
  refine ⟨a1, e2, ?_, ?_, ⟨_, _, _, j2⟩, ?_, ⟨_, _, _, j4⟩, ?_, hphi2, ?_, ?_, ?_, ?_⟩
  · exact e5
  · exact read_none a1 (by rw [j5.aw]; exact j5.w1) (fun s hs => by
      obtain ⟨i, hi⟩ := List.getElem?_of_mem hs
      obtain ⟨sb, t, h1, h2, r⟩ := j5.at hi
      exact ⟨r.inn, r.tak⟩) _ _ _
  · exact ⟨_, _, _, j3⟩
  · exact ⟨_, _, _, j5⟩
  · omega
  · exact hphi3
  · intro k C hp
    by_cases hlong : n ≤ (outB n a).1.length ∨ n ≤ (outB n b2).1.length
    · refine .inr (.inr ?_)
      rcases hp with ⟨hc, hf⟩ | ⟨hc, hp⟩ | hp
      · have := j.zero hc hf
        omega
      · omega
      · omega
    · have hcl := hclean (by omega) (by omega)
      rcases hp with ⟨hc, hf⟩ | ⟨hc, hp⟩ | hp
      · exact .inl ⟨hcl, har.2.2.2.2 (out_fin n a hf)⟩
      · by_cases hf : Fin a
        · exact .inl ⟨hcl, har.2.2.2.2 (out_fin n a hf)⟩
        · have := j.more hc hT hf (by omega : 5 ≤ n)
          exact .inr (.inl ⟨hcl, by omega⟩)
      · exact .inr (.inl ⟨hcl, by omega⟩)
  · rw [e4]
    have := j3.rl
    simp only; omega
end
end Go.Abs
/- Mx22: the walk of the closure that reads all streams. Conditions: none. -/
set_option maxRecDepth 100000
set_option linter.unusedSimpArgs false
set_option linter.unusedVariables false
namespace Go.Abs
open Go.Proofs
def strV (x : List UInt8) : Value := .string (str x)
structure ROk (c : Nat) (m : MuxS) : Prop where
  br : m.broken = false
  ct : m.control.length ≤ c
  win : m.window ≤ 256
  ids : Ids m.streams
  sum : ∀ s, s ∈ m.streams → s.room + s.inn.length + s.taken ≤ 2 ^ 30
theorem find_ids' {m : MuxS} (h : Ids m.streams) {i : Nat} {s : Strm} (hs : m.streams[i]? = some s) : findS m s.id = (i : Int) := find_at (fi := m.first) (w := m.window) h hs
theorem ROk.read {c : Nat} {m : MuxS} (r : ROk c m) {k : Nat} {s : Strm} (hs : m.streams[k]? = some s) (n : Nat) (hn : n ≤ s.inn.length) : ROk (c + 7) (readM m k s s.id n) ∧ (readM m k s s.id n).streams.length = m.streams.length ∧ ∀ (i : Nat) (t : Strm), m.streams[i]? = some t → ∃ t' : Strm, (readM m k s s.id n).streams[i]? = some t' ∧ t'.id = t.id := by
  obtain ⟨r1, r2, r3, r4, r5⟩ := r
  have hl := (List.getElem?_eq_some_iff.1 hs).1
  have key : ∀ z : Strm, z.id = s.id → z.room + z.inn.length + z.taken ≤ 2 ^ 30 → Ids (m.streams.set k z) ∧ (∀ u, u ∈ m.streams.set k z → u.room + u.inn.length + u.taken ≤ 2 ^ 30) ∧ ∀ (i : Nat) (t : Strm), m.streams[i]? = some t → ∃ t' : Strm, (m.streams.set k z)[i]? = some t' ∧ t'.id = t.id := by
    intro z hz hsum
    refine ⟨fun i t ht => ?_, fun u hu => ?_, fun i t ht => ?_⟩
    · by_cases hik : k = i
      · subst hik; rw [List.getElem?_set_self hl] at ht; cases ht; rw [hz]; exact r4 k s hs
      · rw [List.getElem?_set_ne hik] at ht; exact r4 i t ht
    · rcases List.mem_or_eq_of_mem_set hu with hu | rfl
      · exact r5 u hu
      · exact hsum
    · by_cases hik : k = i
      · subst hik; rw [hs] at ht; cases ht; exact ⟨z, List.getElem?_set_self hl, hz⟩
      · exact ⟨t, by rw [List.getElem?_set_ne hik]; exact ht, rfl⟩
  have hsum := r5 s (List.mem_of_getElem? hs)
  unfold readM
  split
  · obtain ⟨q1, q2, q3⟩ := key { s with inn := s.inn.drop n, taken := 0, room := s.room + (s.taken + n) } rfl (by simp only [List.length_drop]; omega)
    refine ⟨⟨r1, ?_, r3, q1, q2⟩, by simp only [List.length_set], q3⟩
    simp only [List.length_append, frameS_len, List.length_cons, List.length_nil]; omega
  · obtain ⟨q1, q2, q3⟩ := key { s with inn := s.inn.drop n, taken := s.taken + n } rfl (by simp only [List.length_drop]; omega)
    exact ⟨⟨r1, by simp only; omega, r3, q1, q2⟩, by simp only [List.length_set], q3⟩
theorem set_map_strV (L : List (List UInt8)) (k : Nat) (x : List UInt8) : (L.map strV).set k (strV x) = (L.set k x).map strV := by rw [List.map_set]
theorem reads_q (c : Nat) (m : MuxS) (L : List (List UInt8)) {h : AHeap} {p : Nat} {sb lb : Option Nat} {ids : List Nat} (a : MuxAt h p sb ids m) (hl : m.streams.length ≤ 16) (r0 : ROk c m) (hc : c ≤ 2 ^ 30) (ol : OwnV h lb (L.map strV)) (hfar : ∀ b, lb = some b → b ∉ foot p sb ids) (hLl : L.length ≤ 2 ^ 20) (hLb : ∀ i, (rd L i).length ≤ 2 ^ 30) :
    FW cx 32 [ptrC p, .slice (slA lb) L.length L.length] h fun v h' => ∃ lb', v = .slice (slA lb') (readAll m L).2.length (readAll m L).2.length ∧ OwnV h' lb' ((readAll m L).2.map strV) ∧ MuxAt h' p sb ids (readAll m L).1 ∧ Upd h h' (lb.toList ++ foot p sb ids) (lb'.toList ++ foot p sb ids) ∧ ∀ b, lb' = some b → b ∉ foot p sb ids := by
  refine FW_f Try.func32 rfl (by decide +kernel) ?_
  simp -dsimp -implicitDefEqProofs (disch := first | omega | (simp only [stT, u_1, ag_1, sz_1, by_1, ze_1, es_1, u_3, ag_3, sz_3, by_3, ze_3, es_3, u_9, ag_9, sz_9, by_9, ze_9, es_9, u_22, ag_22, sz_22, by_22, ze_22, es_22, u_23, ag_23, sz_23, by_23, ze_23, es_23, u_26, ag_26, sz_26, by_26, ze_26, es_26]; done) | (simp only [List.append_assoc, List.cons_append, List.nil_append, pre_n, pre_c, pre_a, pre_g, pre_r]; done) | (simp only [List.length_set]; done) | (simp only [List.length_set]; omega) | assumption | decide +kernel | fail) only [↓RP, RQ, isConstA, Nat.reduceEqDiff, Nat.reduceLT, Nat.reduceAdd, Int.reduceNeg, Int.reduceLT, Int.reduceLE, Int.reduceToNat, Int.reduceEq, ↓reduceIte, ite_true, ite_false, Option.toList, Nat.reduceMul, Nat.reduceSub, Nat.reduceLeDiff, ne_eq, eq_self, u_1, ag_1, sz_1, by_1, ze_1, es_1, u_3, ag_3, sz_3, by_3, ze_3, es_3, u_9, ag_9, sz_9, by_9, ze_9, es_9, u_22, ag_22, sz_22, by_22, ze_22, es_22, u_23, ag_23, sz_23, by_23, ze_23, es_23, u_26, ag_26, sz_26, by_26, ze_26, es_26, ↓AW_loop]
  have hlen := a.len
  refine FW.mono (streams_q m a (by omega)) (fun v h1 hq => ?_)
  obtain ⟨zb, rfl, oz, hz, u1⟩ := hq
  have a1 := a.upd u1 (fun q _ => by simp)
  have ol1 := ol.upd u1 (fun b _ => by simp)
  obtain ⟨N, hN⟩ : ∃ N, m.streams.length = N := ⟨_, rfl⟩
  rw [hN] at hl ⊢
  obtain ⟨S, hS⟩ : ∃ S, readAll m L = S := ⟨_, rfl⟩
  have hS' : readGo N 0 m L = S := by rw [← hS, ← hN]; rfl
  rw [hS]
  simp -dsimp -implicitDefEqProofs (disch := first | omega | (simp only [stT, u_1, ag_1, sz_1, by_1, ze_1, es_1, u_3, ag_3, sz_3, by_3, ze_3, es_3, u_9, ag_9, sz_9, by_9, ze_9, es_9, u_22, ag_22, sz_22, by_22, ze_22, es_22, u_23, ag_23, sz_23, by_23, ze_23, es_23, u_26, ag_26, sz_26, by_26, ze_26, es_26]; done) | (simp only [List.append_assoc, List.cons_append, List.nil_append, pre_n, pre_c, pre_a, pre_g, pre_r]; done) | (simp only [List.length_set]; done) | (simp only [List.length_set]; omega) | assumption | decide +kernel | fail) only [↓RP, RQ, isConstA, Nat.reduceEqDiff, Nat.reduceLT, Nat.reduceAdd, Int.reduceNeg, Int.reduceLT, Int.reduceLE, Int.reduceToNat, Int.reduceEq, ↓reduceIte, ite_true, ite_false, Option.toList, Nat.reduceMul, Nat.reduceSub, Nat.reduceLeDiff, ne_eq, eq_self, u_1, ag_1, sz_1, by_1, ze_1, es_1, u_3, ag_3, sz_3, by_3, ze_3, es_3, u_9, ag_9, sz_9, by_9, ze_9, es_9, u_22, ag_22, sz_22, by_22, ze_22, es_22, u_23, ag_23, sz_23, by_23, ze_23, es_23, u_26, ag_26, sz_26, by_26, ze_26, es_26, ↓AW_loop]
  refine LW_rule (fun n fr h' => ∃ (k : Nat) (m' : MuxS) (L' : List (List UInt8)) (lb' : Option Nat), k ≤ N ∧ n = N - k ∧ fget fr 12 = .int .i64 k ∧ fget fr 11 = .int .i64 N ∧ fget fr 10 = .slice (slA zb) N N ∧ fget fr 0 = ptrC p ∧ fget fr 1 = .slice (slA lb') L'.length L'.length ∧
      MuxAt h' p sb ids m' ∧ m'.streams.length = N ∧ ROk (c + 7 * k) m' ∧ OwnV h' lb' (L'.map strV) ∧ k ≤ L'.length ∧ L'.length ≤ 2 ^ 20 + k ∧ (∀ i, k ≤ i → (rd L' i).length ≤ 2 ^ 30) ∧ (∀ b, lb' = some b → b ∉ foot p sb ids) ∧ OwnV h' zb (m.streams.map idV) ∧ (∀ b, zb = some b → lb' ≠ some b) ∧
      (∀ (i : Nat) (t : Strm), m.streams[i]? = some t → ∃ t' : Strm, m'.streams[i]? = some t' ∧ t'.id = t.id) ∧ Upd h h' (lb.toList ++ foot p sb ids) (lb'.toList ++ foot p sb ids) ∧ readGo (N - k) k m' L' = S) ?_ N _ _ ⟨0, m, L, lb, by omega, rfl, ?_⟩
  · rintro n fr h' ⟨k, m', L', lb', hk, hn, f12, f11, f10, f0, f1, am, hml, ro, ol', hkL, hLl', hLb', hfar', oz', hzl, hids, um, hgo⟩
    have hzf : ∀ b, zb = some b → b ∉ foot p sb ids := fun b hb hm => by
      have h1 := hz b hb
      have h2 := a.fl b hm
      omega
    by_cases hlt : k < N
    · have hlt' : (k : Int) < N := by omega
      obtain ⟨s0, hs0⟩ : ∃ s, m.streams[k]? = some s := ⟨_, List.getElem?_eq_getElem (by omega)⟩
      obtain ⟨s, hs, hsid⟩ := hids k s0 hs0
      rcases oz' with ⟨_, h0⟩ | ⟨z, rfl, hzb⟩
      · have := congrArg List.length h0
        rw [List.length_map] at this
        simp at this
        rw [this] at hN; simp at hN; omega
      · have hzc : (m.streams.map idV)[k]? = some (.int .i64 s.id) := by rw [List.getElem?_map, hs0, hsid]; rfl
        simp only [slA, Option.map_some] at f10
        simp -dsimp -implicitDefEqProofs (disch := first | omega | (simp only [stT, u_1, ag_1, sz_1, by_1, ze_1, es_1, u_3, ag_3, sz_3, by_3, ze_3, es_3, u_9, ag_9, sz_9, by_9, ze_9, es_9, u_22, ag_22, sz_22, by_22, ze_22, es_22, u_23, ag_23, sz_23, by_23, ze_23, es_23, u_26, ag_26, sz_26, by_26, ze_26, es_26]; done) | (simp only [List.append_assoc, List.cons_append, List.nil_append, pre_n, pre_c, pre_a, pre_g, pre_r]; done) | (simp only [List.length_set]; done) | (simp only [List.length_set]; omega) | assumption | decide +kernel | fail) only [↓RP, RQ, isConstA, Nat.reduceEqDiff, Nat.reduceLT, Nat.reduceAdd, Int.reduceNeg, Int.reduceLT, Int.reduceLE, Int.reduceToNat, Int.reduceEq, ↓reduceIte, ite_true, ite_false, Option.toList, Nat.reduceMul, Nat.reduceSub, Nat.reduceLeDiff, ne_eq, eq_self, u_1, ag_1, sz_1, by_1, ze_1, es_1, u_3, ag_3, sz_3, by_3, ze_3, es_3, u_9, ag_9, sz_9, by_9, ze_9, es_9, u_22, ag_22, sz_22, by_22, ze_22, es_22, u_23, ag_23, sz_23, by_23, ze_23, es_23, u_26, ag_26, sz_26, by_26, ze_26, es_26, ↓AW_loop, f12, f11, f10, f0, f1, hlt', hzb, hzc]
        have hsum := ro.sum s (List.mem_of_getElem? hs)
        have hct := ro.ct
        have hwin := ro.win
        have hidl := am.len
        refine FW.mono (read_q m' s.id k 4096 s am (by omega) (find_ids' ro.ids hs) hs ro.br (by omega) (by omega) (by omega) (by omega) (by omega) (by omega)) (fun v h2 hq => ?_)
        obtain ⟨rfl, a2, u2⟩ := hq
        obtain ⟨n4, hn4⟩ : ∃ n4, min 4096 s.inn.length = n4 := ⟨_, rfl⟩
        rw [hn4] at a2 ⊢
        obtain ⟨ro2, hl2, hids2⟩ := ro.read hs n4 (by omega)
        have hz2 := u2.blk (hzf z rfl) hzb
        have hgo2 : readGo (N - (k + 1)) (k + 1) (readM m' k s s.id n4) (talkL L' k (s.inn.take n4)) = S := by
          rw [show N - k = (N - (k + 1)) + 1 by omega, readGo_some hs, hn4] at hgo
          exact hgo
        obtain ⟨tl1, tl2, tl3⟩ := talkL_spec (s.inn.take n4) hkL
        have hidsN : ∀ (i : Nat) (t : Strm), m.streams[i]? = some t → ∃ t' : Strm, (readM m' k s s.id n4).streams[i]? = some t' ∧ t'.id = t.id := fun i t ht => by
          obtain ⟨t1, q1, q2⟩ := hids i t ht
          obtain ⟨t2, q3, q4⟩ := hids2 i t1 q1
          exact ⟨t2, q3, q4.trans q2⟩
        generalize readM m' k s s.id n4 = m2 at *
        generalize hx : s.inn.take n4 = x at *
        have hxl : x.length ≤ 2 ^ 30 := by rw [← hx, List.length_take]; omega
        have ol2 := ol'.upd u2 hfar'
        have hrk := hLb' k (Nat.le_refl _)
        have um2 : Upd h h2 (lb.toList ++ foot p sb ids) (lb'.toList ++ foot p sb ids) := um.trans ((u2.from (G := lb'.toList ++ foot p sb ids) (fun q hq => by simp [hq])).to fun q hq => .inl hq)
        have hzn := hzf z rfl
        have hzlt := blkA_lt hz2
        have hLb2 : ∀ i, k + 1 ≤ i → (rd (talkL L' k x) i).length ≤ 2 ^ 30 := fun i hi => by rw [tl3 i (by omega)]; exact hLb' i (by omega)
        have htl : (talkL L' k x).length = L'.length ∨ (talkL L' k x).length = k + 1 := by rw [tl1]; omega
        have hupd : ∀ (H : AHeap) (q' : Nat), Upd h H (lb.toList ++ foot p sb ids) (lb'.toList ++ foot p sb ids) → (lb' = some q' ∨ h.length ≤ q') → Upd h H (lb.toList ++ foot p sb ids) ((some q').toList ++ foot p sb ids) := fun H q' u hq' => u.to fun q hq => by
          simp only [Option.toList_some, List.cons_append, List.nil_append, List.mem_cons] at hq
          rcases hq with rfl | hq
          · rcases hq' with hq' | hq'
            · exact u.own q (by rw [hq']; simp)
            · exact .inr hq'
          · exact .inl (by simp [hq])
        by_cases hkl : k = L'.length
        · have hkl' : (k : Int) = L'.length := by omega
          have htalk : talkL L' k x = L' ++ [x] := by
            unfold talkL
            rw [if_pos hkl, if_pos (by simp; omega)]
            have : rd (L' ++ [[]]) k = [] := by unfold rd; rw [List.getElem?_append_right (by omega), hkl, Nat.sub_self]; rfl
            rw [this, List.nil_append, hkl, List.set_append_right (h := Nat.le_refl _), Nat.sub_self]; rfl
          rw [htalk] at hgo2
          rcases ol2 with ⟨rfl, h0⟩ | ⟨q, rfl, hqb⟩
          · obtain rfl : L' = [] := by simpa using h0
            obtain rfl : k = 0 := hkl
            have f12' : fget fr 12 = .int .i64 0 := f12
            have f1' : fget fr 1 = .slice none 0 0 := f1
            have hlt0 : (0 : Int) < N := hlt'
            simp -dsimp -implicitDefEqProofs (disch := first | omega | (simp only [stT, u_1, ag_1, sz_1, by_1, ze_1, es_1, u_3, ag_3, sz_3, by_3, ze_3, es_3, u_9, ag_9, sz_9, by_9, ze_9, es_9, u_22, ag_22, sz_22, by_22, ze_22, es_22, u_23, ag_23, sz_23, by_23, ze_23, es_23, u_26, ag_26, sz_26, by_26, ze_26, es_26]; done) | (simp only [List.append_assoc, List.cons_append, List.nil_append, pre_n, pre_c, pre_a, pre_g, pre_r]; done) | (simp only [List.length_set]; done) | (simp only [List.length_set]; omega) | assumption | decide +kernel | fail) only [↓RP, RQ, isConstA, Nat.reduceEqDiff, Nat.reduceLT, Nat.reduceAdd, Int.reduceNeg, Int.reduceLT, Int.reduceLE, Int.reduceToNat, Int.reduceEq, ↓reduceIte, ite_true, ite_false, Option.toList, Nat.reduceMul, Nat.reduceSub, Nat.reduceLeDiff, ne_eq, eq_self, u_1, ag_1, sz_1, by_1, ze_1, es_1, u_3, ag_3, sz_3, by_3, ze_3, es_3, u_9, ag_9, sz_9, by_9, ze_9, es_9, u_22, ag_22, sz_22, by_22, ze_22, es_22, u_23, ag_23, sz_23, by_23, ze_23, es_23, u_26, ag_26, sz_26, by_26, ze_26, es_26, ↓AW_loop, f12', f11, f10, f0, f1', hlt0]
            have h2l := um2.len
            refine ⟨by omega, N - 1, by omega, 1, m2, [x], some (h2.length + 1), by omega, rfl, rfl, rfl, rfl, a2.app _, by rw [hl2, hml], ro2, .inr ⟨_, rfl, by rw [blk_atH rfl]; rfl⟩, Nat.le_refl _, by simp, hLb2, fun b hb hm => ?_, .inr ⟨z, rfl, blkA_app _ hz2⟩, fun b hb e => ?_, hidsN, hupd _ _ (um2.more _) (.inr (by omega)), hgo2⟩
            · cases hb; have := a2.fl _ hm; omega
            · cases hb; cases e; omega
          · simp only [slA, Option.map_some] at f1
            have hqX := fun X => blkA_app X hqb
            have hll : (L'.length : Int) < ((L'.length + 1 : Nat) : Int) := by omega
            have hcl : (L'.map strV ++ [Value.string (str [])])[L'.length]? = some (.string (str [])) := by
              rw [List.getElem?_append_right (by rw [List.length_map]; exact Nat.le_refl _), List.length_map, Nat.sub_self]; rfl
            have hnb : ∀ Y Z, blkA ((h2 ++ [Y]).set q none ++ [some (.cells Z)]) (h2.length + 1) = some Z := fun Y Z => by
              have := blkA_moved (h2 ++ [Y]) q none Z
              rwa [List.length_append, List.length_singleton] at this
            have hns : ∀ Y Z V, ((h2 ++ [Y]).set q none ++ [Z]).set (h2.length + 1) V = (h2 ++ [Y]).set q none ++ [V] := fun Y Z V => by
              rw [List.set_append_right (h := by rw [List.length_set, List.length_append]; exact Nat.le_refl _)]
              rw [List.length_set, List.length_append, List.length_singleton, Nat.sub_self]; rfl
            simp -dsimp -implicitDefEqProofs (disch := first | omega | (simp only [stT, u_1, ag_1, sz_1, by_1, ze_1, es_1, u_3, ag_3, sz_3, by_3, ze_3, es_3, u_9, ag_9, sz_9, by_9, ze_9, es_9, u_22, ag_22, sz_22, by_22, ze_22, es_22, u_23, ag_23, sz_23, by_23, ze_23, es_23, u_26, ag_26, sz_26, by_26, ze_26, es_26]; done) | (simp only [List.append_assoc, List.cons_append, List.nil_append, pre_n, pre_c, pre_a, pre_g, pre_r]; done) | (simp only [List.length_set]; done) | (simp only [List.length_set]; omega) | assumption | decide +kernel | fail) only [↓RP, RQ, isConstA, Nat.reduceEqDiff, Nat.reduceLT, Nat.reduceAdd, Int.reduceNeg, Int.reduceLT, Int.reduceLE, Int.reduceToNat, Int.reduceEq, ↓reduceIte, ite_true, ite_false, Option.toList, Nat.reduceMul, Nat.reduceSub, Nat.reduceLeDiff, ne_eq, eq_self, u_1, ag_1, sz_1, by_1, ze_1, es_1, u_3, ag_3, sz_3, by_3, ze_3, es_3, u_9, ag_9, sz_9, by_9, ze_9, es_9, u_22, ag_22, sz_22, by_22, ze_22, es_22, u_23, ag_23, sz_23, by_23, ze_23, es_23, u_26, ag_26, sz_26, by_26, ze_26, es_26, ↓AW_loop, f12, f11, f10, f0, f1, hkl', hqX, hll, hcl, hnb, hns]
            have hql := blkA_lt hqb
            have hqz : z ≠ q := fun e => hzl z rfl (by rw [e])
            have hqo := um2.own q (by simp)
            have h2l := um2.len
            have hk1 : N - (k + 1) < n := by omega
            have u3 : ∀ Y Z, Upd h ((h2 ++ [Y]).set q none ++ [Z]) (lb.toList ++ foot p sb ids) ((some q).toList ++ foot p sb ids) := fun Y Z => by
              rcases hqo with hqo | hqo
              · exact ((um2.more _).set hqo).more _
              · exact ((um2.more _).setNew hqo).more _
            refine ⟨by omega, by omega, N - (k + 1), hk1, k + 1, m2, L' ++ [x], some (h2.length + 1), by omega, rfl, by rw [hkl]; rfl, rfl, ?_, ?_, by rw [hl2, hml], ro2, .inr ⟨_, rfl, ?_⟩, by simp; omega, by simp; omega, by rw [← htalk]; exact hLb2, fun b hb hm => ?_, .inr ⟨z, rfl, ?_⟩, fun b hb e => ?_, hidsN, hupd _ _ (u3 _ _) (.inr (by omega)), hgo2⟩
            · rw [List.length_append]; rfl
            · exact a2.same fun q2 hq2 => by
                have h3 := a2.fl q2 hq2
                rw [List.getElem?_append_left (by rw [List.length_set, List.length_append]; omega), List.getElem?_set_ne (fun e => hfar' q rfl (by rw [e]; exact hq2)), List.getElem?_append_left h3]
            · rw [hnb]
              congr 2
              rw [List.set_append_right (h := by rw [List.length_map]; exact Nat.le_refl _), List.length_map, Nat.sub_self, List.map_append]; rfl
            · cases hb; have := a2.fl _ hm; omega
            · rw [blk_setN hqz]; exact blkA_app _ (blkA_app _ hz2)
            · cases hb; cases e; omega
        · have hkl' : ¬ (k : Int) = L'.length := by omega
          have hkl2 : (k : Int) < L'.length := by omega
          rcases ol2 with ⟨rfl, h0⟩ | ⟨q, rfl, hqb⟩
          · have h0 := congrArg List.length h0
            rw [List.length_map, List.length_nil] at h0
            exact absurd (by omega : k = L'.length) hkl
          · simp only [slA, Option.map_some] at f1
            have hcl : (L'.map strV)[k]? = some (.string (str (rd L' k))) := by
              rw [List.getElem?_map, List.getElem?_eq_getElem (by omega)]
              unfold rd; rw [List.getElem?_eq_getElem (by omega)]; rfl
            simp -dsimp -implicitDefEqProofs (disch := first | omega | (simp only [stT, u_1, ag_1, sz_1, by_1, ze_1, es_1, u_3, ag_3, sz_3, by_3, ze_3, es_3, u_9, ag_9, sz_9, by_9, ze_9, es_9, u_22, ag_22, sz_22, by_22, ze_22, es_22, u_23, ag_23, sz_23, by_23, ze_23, es_23, u_26, ag_26, sz_26, by_26, ze_26, es_26]; done) | (simp only [List.append_assoc, List.cons_append, List.nil_append, pre_n, pre_c, pre_a, pre_g, pre_r]; done) | (simp only [List.length_set]; done) | (simp only [List.length_set]; omega) | assumption | decide +kernel | fail) only [↓RP, RQ, isConstA, Nat.reduceEqDiff, Nat.reduceLT, Nat.reduceAdd, Int.reduceNeg, Int.reduceLT, Int.reduceLE, Int.reduceToNat, Int.reduceEq, ↓reduceIte, ite_true, ite_false, Option.toList, Nat.reduceMul, Nat.reduceSub, Nat.reduceLeDiff, ne_eq, eq_self, u_1, ag_1, sz_1, by_1, ze_1, es_1, u_3, ag_3, sz_3, by_3, ze_3, es_3, u_9, ag_9, sz_9, by_9, ze_9, es_9, u_22, ag_22, sz_22, by_22, ze_22, es_22, u_23, ag_23, sz_23, by_23, ze_23, es_23, u_26, ag_26, sz_26, by_26, ze_26, es_26, ↓AW_loop, f12, f11, f10, f0, f1, hkl', hkl2, hqb, hcl]
            have hql := blkA_lt hqb
            have hqz : z ≠ q := fun e => hzl z rfl (by rw [e])
            have htalk : talkL L' k x = L'.set k (rd L' k ++ x) := by
              unfold talkL
              rw [if_neg hkl, if_pos (by omega)]
            have hqo := um2.own q (by simp)
            refine ⟨by omega, by omega, N - (k + 1), by omega, k + 1, m2, talkL L' k x, some q, by omega, rfl, rfl, rfl, ?_, ?_, by rw [hl2, hml], ro2, .inr ⟨q, rfl, ?_⟩, by rw [tl1]; omega, by omega, hLb2, hfar', .inr ⟨z, rfl, by rw [blk_setN0 hqz]; exact hz2⟩, hzl, hidsN, hupd _ _ ?_ (.inl rfl), hgo2⟩
            · rw [htalk, List.length_set]; rfl
            · exact a2.same fun q2 hq2 => by rw [List.getElem?_set_ne (fun e => hfar' q rfl (by rw [e]; exact hq2))]
            · rw [blk_setB0 hql, htalk, ← set_map_strV]; rfl
            · rcases hqo with hqo | hqo
              · exact um2.set hqo
              · exact um2.setNew hqo
    · have hlt' : ¬ (k : Int) < N := by omega
      rw [show N - k = 0 by omega, readGo] at hgo
      rw [← hgo]
      simp -dsimp -implicitDefEqProofs (disch := first | omega | (simp only [stT, u_1, ag_1, sz_1, by_1, ze_1, es_1, u_3, ag_3, sz_3, by_3, ze_3, es_3, u_9, ag_9, sz_9, by_9, ze_9, es_9, u_22, ag_22, sz_22, by_22, ze_22, es_22, u_23, ag_23, sz_23, by_23, ze_23, es_23, u_26, ag_26, sz_26, by_26, ze_26, es_26]; done) | (simp only [List.append_assoc, List.cons_append, List.nil_append, pre_n, pre_c, pre_a, pre_g, pre_r]; done) | (simp only [List.length_set]; done) | (simp only [List.length_set]; omega) | assumption | decide +kernel | fail) only [↓RP, RQ, isConstA, Nat.reduceEqDiff, Nat.reduceLT, Nat.reduceAdd, Int.reduceNeg, Int.reduceLT, Int.reduceLE, Int.reduceToNat, Int.reduceEq, ↓reduceIte, ite_true, ite_false, Option.toList, Nat.reduceMul, Nat.reduceSub, Nat.reduceLeDiff, ne_eq, eq_self, u_1, ag_1, sz_1, by_1, ze_1, es_1, u_3, ag_3, sz_3, by_3, ze_3, es_3, u_9, ag_9, sz_9, by_9, ze_9, es_9, u_22, ag_22, sz_22, by_22, ze_22, es_22, u_23, ag_23, sz_23, by_23, ze_23, es_23, u_26, ag_26, sz_26, by_26, ze_26, es_26, ↓AW_loop, f12, f11, f1, hlt']
      exact ⟨lb', rfl, ol', am, um, hfar'⟩
  · simp -dsimp -implicitDefEqProofs (disch := first | omega | (simp only [stT, u_1, ag_1, sz_1, by_1, ze_1, es_1, u_3, ag_3, sz_3, by_3, ze_3, es_3, u_9, ag_9, sz_9, by_9, ze_9, es_9, u_22, ag_22, sz_22, by_22, ze_22, es_22, u_23, ag_23, sz_23, by_23, ze_23, es_23, u_26, ag_26, sz_26, by_26, ze_26, es_26]; done) | (simp only [List.append_assoc, List.cons_append, List.nil_append, pre_n, pre_c, pre_a, pre_g, pre_r]; done) | (simp only [List.length_set]; done) | (simp only [List.length_set]; omega) | assumption | decide +kernel | fail) only [↓RP, RQ, isConstA, Nat.reduceEqDiff, Nat.reduceLT, Nat.reduceAdd, Int.reduceNeg, Int.reduceLT, Int.reduceLE, Int.reduceToNat, Int.reduceEq, ↓reduceIte, ite_true, ite_false, Option.toList, Nat.reduceMul, Nat.reduceSub, Nat.reduceLeDiff, ne_eq, eq_self, u_1, ag_1, sz_1, by_1, ze_1, es_1, u_3, ag_3, sz_3, by_3, ze_3, es_3, u_9, ag_9, sz_9, by_9, ze_9, es_9, u_22, ag_22, sz_22, by_22, ze_22, es_22, u_23, ag_23, sz_23, by_23, ze_23, es_23, u_26, ag_26, sz_26, by_26, ze_26, es_26, ↓AW_loop]
    refine ⟨a1, hN, r0, ol1, Nat.zero_le _, hLl, fun i _ => hLb i, hfar, oz, fun b hb e => ?_, fun i t ht => ⟨t, ht, rfl⟩, ((u1.from (G := lb.toList ++ foot p sb ids) (fun q hq => by simp at hq)).to fun q hq => .inl hq), hS'⟩
    have h2 := hz b hb
    have h3 := ol.lt e
    omega
end Go.Abs
/- Mx13: the law MuxJunk: its walk. Conditions: none. -/
set_option maxRecDepth 100000
set_option linter.unusedSimpArgs false
set_option linter.unusedVariables false
namespace Go.Abs
open Go.Proofs
theorem broken_q (m : MuxS) {h : AHeap} {p : Nat} {sb : Option Nat} {ids : List Nat} (a : MuxAt h p sb ids m) : Quiet cx 18 [ptrC p] h (.bool m.broken) := by
  refine FW_f Try.func18 rfl (by decide +kernel) ?_
  simp -dsimp -implicitDefEqProofs (disch := first | omega | (simp only [stT, u_2, ag_2, sz_2, by_2, ze_2, es_2, u_3, ag_3, sz_3, by_3, ze_3, es_3, u_4, ag_4, sz_4, by_4, ze_4, bo_4, es_4, u_6, ag_6, sz_6, by_6, ze_6, u8_6, es_6, u_8, f_8_0, f_8_1, f_8_2, f_8_3, ag_8, sz_8, by_8, ze_8, pl_8, es_8, u_9, ag_9, sz_9, by_9, ze_9, es_9, u_26, ag_26, sz_26, by_26, ze_26, es_26, u_53, ag_53, sz_53, by_53, ze_53, es_53, u_55, f_55_0, f_55_1, f_55_2, f_55_3, f_55_4, f_55_5, f_55_6, f_55_7, f_55_8, ag_55, sz_55, by_55, ze_55, pl_55, es_55, u_57, ag_57, sz_57, by_57, ze_57, es_57]; done) | (simp only [List.append_assoc, List.cons_append, List.nil_append, pre_n, pre_c, pre_a, pre_g, pre_r]; done) | (simp only [List.length_set]; done) | (simp only [List.length_set]; omega) | assumption | decide +kernel | fail) only [↓RP, RQ, isConstA, Nat.reduceEqDiff, Nat.reduceLT, Nat.reduceAdd, Int.reduceNeg, Int.reduceLT, Int.reduceLE, Int.reduceToNat, Int.reduceEq, ↓reduceIte, ite_true, ite_false, Option.toList, Nat.reduceMul, Nat.reduceSub, Nat.reduceLeDiff, ne_eq, eq_self, u_2, ag_2, sz_2, by_2, ze_2, es_2, u_3, ag_3, sz_3, by_3, ze_3, es_3, u_4, ag_4, sz_4, by_4, ze_4, bo_4, es_4, u_6, ag_6, sz_6, by_6, ze_6, u8_6, es_6, u_8, f_8_0, f_8_1, f_8_2, f_8_3, ag_8, sz_8, by_8, ze_8, pl_8, es_8, u_9, ag_9, sz_9, by_9, ze_9, es_9, u_26, ag_26, sz_26, by_26, ze_26, es_26, u_53, ag_53, sz_53, by_53, ze_53, es_53, u_55, f_55_0, f_55_1, f_55_2, f_55_3, f_55_4, f_55_5, f_55_6, f_55_7, f_55_8, ag_55, sz_55, by_55, ze_55, pl_55, es_55, u_57, ag_57, sz_57, by_57, ze_57, es_57, ↓AW_loop, ptrC, a.top, muxC]
  exact Ext.refl _
theorem junk_w (l : List UInt8) (hl : l.length < 2 ^ 50) (h0 : AHeap) : FW cx 4 [.string (str l)] h0 fun v _ => v = .bool true := by
  refine FW_f Try.func4 rfl (by decide +kernel) ?_
  have hmin : foldA min2A (Value.int .i64 (l.length : Int)) [.int .i64 300] = some (.int .i64 ((min l.length 300 : Nat) : Int)) := by
    simp only [foldA, min2A]; congr 2; split <;> omega
  simp -dsimp -implicitDefEqProofs (disch := first | omega | (simp only [stT, u_3, ag_3, sz_3, by_3, ze_3, es_3, u_4, ag_4, sz_4, by_4, ze_4, bo_4, es_4, u_9, ag_9, sz_9, by_9, ze_9, es_9, u_26, ag_26, sz_26, by_26, ze_26, es_26, u_27, ag_27, sz_27, by_27, ze_27, es_27]; done) | (simp only [List.append_assoc, List.cons_append, List.nil_append, pre_n, pre_c, pre_a, pre_g, pre_r]; done) | (simp only [List.length_set]; done) | (simp only [List.length_set]; omega) | assumption | decide +kernel | fail) only [↓RP, RQ, isConstA, Nat.reduceEqDiff, Nat.reduceLT, Nat.reduceAdd, Int.reduceNeg, Int.reduceLT, Int.reduceLE, Int.reduceToNat, Int.reduceEq, ↓reduceIte, ite_true, ite_false, Option.toList, Nat.reduceMul, Nat.reduceSub, Nat.reduceLeDiff, ne_eq, eq_self, u_3, ag_3, sz_3, by_3, ze_3, es_3, u_4, ag_4, sz_4, by_4, ze_4, bo_4, es_4, u_9, ag_9, sz_9, by_9, ze_9, es_9, u_26, ag_26, sz_26, by_26, ze_26, es_26, u_27, ag_27, sz_27, by_27, ze_27, es_27, ↓AW_loop]
  refine FW.mono (new_q false 64 (by decide) (by decide) h0) (fun v h1 hq => ?_)
  obtain ⟨rfl, a1, e1⟩ := hq
  generalize hp : h0.length = p at a1
  simp -dsimp -implicitDefEqProofs (disch := first | omega | (simp only [stT, u_3, ag_3, sz_3, by_3, ze_3, es_3, u_4, ag_4, sz_4, by_4, ze_4, bo_4, es_4, u_9, ag_9, sz_9, by_9, ze_9, es_9, u_26, ag_26, sz_26, by_26, ze_26, es_26, u_27, ag_27, sz_27, by_27, ze_27, es_27]; done) | (simp only [List.append_assoc, List.cons_append, List.nil_append, pre_n, pre_c, pre_a, pre_g, pre_r]; done) | (simp only [List.length_set]; done) | (simp only [List.length_set]; omega) | assumption | decide +kernel | fail) only [↓RP, RQ, isConstA, Nat.reduceEqDiff, Nat.reduceLT, Nat.reduceAdd, Int.reduceNeg, Int.reduceLT, Int.reduceLE, Int.reduceToNat, Int.reduceEq, ↓reduceIte, ite_true, ite_false, Option.toList, Nat.reduceMul, Nat.reduceSub, Nat.reduceLeDiff, ne_eq, eq_self, u_3, ag_3, sz_3, by_3, ze_3, es_3, u_4, ag_4, sz_4, by_4, ze_4, bo_4, es_4, u_9, ag_9, sz_9, by_9, ze_9, es_9, u_26, ag_26, sz_26, by_26, ze_26, es_26, u_27, ag_27, sz_27, by_27, ze_27, es_27, ↓AW_loop, ptrC]
  refine FW.mono (fact_q h1) (fun v h2 hq => ?_)
  obtain ⟨rfl, u2⟩ := hq
  have a2 := a1.ext u2.toExt
  simp -dsimp -implicitDefEqProofs (disch := first | omega | (simp only [stT, u_3, ag_3, sz_3, by_3, ze_3, es_3, u_4, ag_4, sz_4, by_4, ze_4, bo_4, es_4, u_9, ag_9, sz_9, by_9, ze_9, es_9, u_26, ag_26, sz_26, by_26, ze_26, es_26, u_27, ag_27, sz_27, by_27, ze_27, es_27]; done) | (simp only [List.append_assoc, List.cons_append, List.nil_append, pre_n, pre_c, pre_a, pre_g, pre_r]; done) | (simp only [List.length_set]; done) | (simp only [List.length_set]; omega) | assumption | decide +kernel | fail) only [↓RP, RQ, isConstA, Nat.reduceEqDiff, Nat.reduceLT, Nat.reduceAdd, Int.reduceNeg, Int.reduceLT, Int.reduceLE, Int.reduceToNat, Int.reduceEq, ↓reduceIte, ite_true, ite_false, Option.toList, Nat.reduceMul, Nat.reduceSub, Nat.reduceLeDiff, ne_eq, eq_self, u_3, ag_3, sz_3, by_3, ze_3, es_3, u_4, ag_4, sz_4, by_4, ze_4, bo_4, es_4, u_9, ag_9, sz_9, by_9, ze_9, es_9, u_26, ag_26, sz_26, by_26, ze_26, es_26, u_27, ag_27, sz_27, by_27, ze_27, es_27, ↓AW_loop, hmin]
  refine ⟨by omega, ?_⟩
  obtain ⟨t, ht⟩ : ∃ t, l.take (min l.length 300) = t := ⟨_, rfl⟩
  have htl : t.length ≤ 300 := by rw [← ht, List.length_take]; omega
  rw [ht]
  have j0 : JInv { newM false 64 with got := (newM false 64).got ++ t } := by
    refine ⟨rfl, (by decide : (64 : Nat) ≤ 256), fun s h => by simp [newM] at h, by simp [newM], by simp [newM], fun s h => by simp [newM] at h, ?_⟩
    simp [newM]; omega
  refine FW.mono (in_q JInv JInv.ok (newM false 64) t a2 (by omega) (fun _ => (by decide : (0 : Nat) < 2 ^ 40)) (fun _ _ => j0)) (fun v h3 hq => ?_)
  obtain ⟨rfl, sb3, ids3, a3, u3⟩ := hq
  have hbr : ((inS (newM false 64) t).1 = 0 → (inS (newM false 64) t).2.broken = false) ∧ ((inS (newM false 64) t).1 ≠ 0 → (inS (newM false 64) t).2.broken = true) := by
    unfold inS
    rw [if_neg (by simp [newM]), if_neg (by omega)]
    exact inR_broken _ _ rfl
  generalize inS (newM false 64) t = r at *
  obtain ⟨e, m⟩ := r
  simp only at a3 hbr ⊢
  by_cases e0 : e = 0
  · subst e0
    have hb := hbr.1 rfl
    simp -dsimp -implicitDefEqProofs (disch := first | omega | (simp only [stT, u_3, ag_3, sz_3, by_3, ze_3, es_3, u_4, ag_4, sz_4, by_4, ze_4, bo_4, es_4, u_9, ag_9, sz_9, by_9, ze_9, es_9, u_26, ag_26, sz_26, by_26, ze_26, es_26, u_27, ag_27, sz_27, by_27, ze_27, es_27]; done) | (simp only [List.append_assoc, List.cons_append, List.nil_append, pre_n, pre_c, pre_a, pre_g, pre_r]; done) | (simp only [List.length_set]; done) | (simp only [List.length_set]; omega) | assumption | decide +kernel | fail) only [↓RP, RQ, isConstA, Nat.reduceEqDiff, Nat.reduceLT, Nat.reduceAdd, Int.reduceNeg, Int.reduceLT, Int.reduceLE, Int.reduceToNat, Int.reduceEq, ↓reduceIte, ite_true, ite_false, Option.toList, Nat.reduceMul, Nat.reduceSub, Nat.reduceLeDiff, ne_eq, eq_self, u_3, ag_3, sz_3, by_3, ze_3, es_3, u_4, ag_4, sz_4, by_4, ze_4, bo_4, es_4, u_9, ag_9, sz_9, by_9, ze_9, es_9, u_26, ag_26, sz_26, by_26, ze_26, es_26, u_27, ag_27, sz_27, by_27, ze_27, es_27, ↓AW_loop]
    refine (broken_q m a3).use' fun g => ?_
    rw [hb]
    simp -dsimp -implicitDefEqProofs (disch := first | omega | (simp only [stT, u_3, ag_3, sz_3, by_3, ze_3, es_3, u_4, ag_4, sz_4, by_4, ze_4, bo_4, es_4, u_9, ag_9, sz_9, by_9, ze_9, es_9, u_26, ag_26, sz_26, by_26, ze_26, es_26, u_27, ag_27, sz_27, by_27, ze_27, es_27]; done) | (simp only [List.append_assoc, List.cons_append, List.nil_append, pre_n, pre_c, pre_a, pre_g, pre_r]; done) | (simp only [List.length_set]; done) | (simp only [List.length_set]; omega) | assumption | decide +kernel | fail) only [↓RP, RQ, isConstA, Nat.reduceEqDiff, Nat.reduceLT, Nat.reduceAdd, Int.reduceNeg, Int.reduceLT, Int.reduceLE, Int.reduceToNat, Int.reduceEq, ↓reduceIte, ite_true, ite_false, Option.toList, Nat.reduceMul, Nat.reduceSub, Nat.reduceLeDiff, ne_eq, eq_self, u_3, ag_3, sz_3, by_3, ze_3, es_3, u_4, ag_4, sz_4, by_4, ze_4, bo_4, es_4, u_9, ag_9, sz_9, by_9, ze_9, es_9, u_26, ag_26, sz_26, by_26, ze_26, es_26, u_27, ag_27, sz_27, by_27, ze_27, es_27, ↓AW_loop]
  · have e0' : ¬ (e : Int) = 0 := by omega
    have hb := hbr.2 e0
    simp -dsimp -implicitDefEqProofs (disch := first | omega | (simp only [stT, u_3, ag_3, sz_3, by_3, ze_3, es_3, u_4, ag_4, sz_4, by_4, ze_4, bo_4, es_4, u_9, ag_9, sz_9, by_9, ze_9, es_9, u_26, ag_26, sz_26, by_26, ze_26, es_26, u_27, ag_27, sz_27, by_27, ze_27, es_27]; done) | (simp only [List.append_assoc, List.cons_append, List.nil_append, pre_n, pre_c, pre_a, pre_g, pre_r]; done) | (simp only [List.length_set]; done) | (simp only [List.length_set]; omega) | assumption | decide +kernel | fail) only [↓RP, RQ, isConstA, Nat.reduceEqDiff, Nat.reduceLT, Nat.reduceAdd, Int.reduceNeg, Int.reduceLT, Int.reduceLE, Int.reduceToNat, Int.reduceEq, ↓reduceIte, ite_true, ite_false, Option.toList, Nat.reduceMul, Nat.reduceSub, Nat.reduceLeDiff, ne_eq, eq_self, u_3, ag_3, sz_3, by_3, ze_3, es_3, u_4, ag_4, sz_4, by_4, ze_4, bo_4, es_4, u_9, ag_9, sz_9, by_9, ze_9, es_9, u_26, ag_26, sz_26, by_26, ze_26, es_26, u_27, ag_27, sz_27, by_27, ze_27, es_27, ↓AW_loop, e0']
    refine (open_broken m [104] a3 hb).use' fun g => ?_
    have a4 := a3.app g
    simp -dsimp -implicitDefEqProofs (disch := first | omega | (simp only [stT, u_3, ag_3, sz_3, by_3, ze_3, es_3, u_4, ag_4, sz_4, by_4, ze_4, bo_4, es_4, u_9, ag_9, sz_9, by_9, ze_9, es_9, u_26, ag_26, sz_26, by_26, ze_26, es_26, u_27, ag_27, sz_27, by_27, ze_27, es_27]; done) | (simp only [List.append_assoc, List.cons_append, List.nil_append, pre_n, pre_c, pre_a, pre_g, pre_r]; done) | (simp only [List.length_set]; done) | (simp only [List.length_set]; omega) | assumption | decide +kernel | fail) only [↓RP, RQ, isConstA, Nat.reduceEqDiff, Nat.reduceLT, Nat.reduceAdd, Int.reduceNeg, Int.reduceLT, Int.reduceLE, Int.reduceToNat, Int.reduceEq, ↓reduceIte, ite_true, ite_false, Option.toList, Nat.reduceMul, Nat.reduceSub, Nat.reduceLeDiff, ne_eq, eq_self, u_3, ag_3, sz_3, by_3, ze_3, es_3, u_4, ag_4, sz_4, by_4, ze_4, bo_4, es_4, u_9, ag_9, sz_9, by_9, ze_9, es_9, u_26, ag_26, sz_26, by_26, ze_26, es_26, u_27, ag_27, sz_27, by_27, ze_27, es_27, ↓AW_loop, e0']
    refine (broken_q m a4).use' fun g2 => ?_
    have a5 := a4.app g2
    rw [List.append_assoc] at a5
    rw [hb]
    simp -dsimp -implicitDefEqProofs (disch := first | omega | (simp only [stT, u_3, ag_3, sz_3, by_3, ze_3, es_3, u_4, ag_4, sz_4, by_4, ze_4, bo_4, es_4, u_9, ag_9, sz_9, by_9, ze_9, es_9, u_26, ag_26, sz_26, by_26, ze_26, es_26, u_27, ag_27, sz_27, by_27, ze_27, es_27]; done) | (simp only [List.append_assoc, List.cons_append, List.nil_append, pre_n, pre_c, pre_a, pre_g, pre_r]; done) | (simp only [List.length_set]; done) | (simp only [List.length_set]; omega) | assumption | decide +kernel | fail) only [↓RP, RQ, isConstA, Nat.reduceEqDiff, Nat.reduceLT, Nat.reduceAdd, Int.reduceNeg, Int.reduceLT, Int.reduceLE, Int.reduceToNat, Int.reduceEq, ↓reduceIte, ite_true, ite_false, Option.toList, Nat.reduceMul, Nat.reduceSub, Nat.reduceLeDiff, ne_eq, eq_self, u_3, ag_3, sz_3, by_3, ze_3, es_3, u_4, ag_4, sz_4, by_4, ze_4, bo_4, es_4, u_9, ag_9, sz_9, by_9, ze_9, es_9, u_26, ag_26, sz_26, by_26, ze_26, es_26, u_27, ag_27, sz_27, by_27, ze_27, es_27, ↓AW_loop]
    refine FW.mono (in_q JInv JInv.ok m [] a5 (by decide) (fun h => by rw [hb] at h; cases h) (fun h => by rw [hb] at h; cases h)) (fun v h6 hq => ?_)
    obtain ⟨rfl, sb6, ids6, a6, u6⟩ := hq
    have hin : inS m [] = (7, m) := by unfold inS; rw [if_pos hb]
    rw [hin] at a6 ⊢
    simp -dsimp -implicitDefEqProofs (disch := first | omega | (simp only [stT, u_3, ag_3, sz_3, by_3, ze_3, es_3, u_4, ag_4, sz_4, by_4, ze_4, bo_4, es_4, u_9, ag_9, sz_9, by_9, ze_9, es_9, u_26, ag_26, sz_26, by_26, ze_26, es_26, u_27, ag_27, sz_27, by_27, ze_27, es_27]; done) | (simp only [List.append_assoc, List.cons_append, List.nil_append, pre_n, pre_c, pre_a, pre_g, pre_r]; done) | (simp only [List.length_set]; done) | (simp only [List.length_set]; omega) | assumption | decide +kernel | fail) only [↓RP, RQ, isConstA, Nat.reduceEqDiff, Nat.reduceLT, Nat.reduceAdd, Int.reduceNeg, Int.reduceLT, Int.reduceLE, Int.reduceToNat, Int.reduceEq, ↓reduceIte, ite_true, ite_false, Option.toList, Nat.reduceMul, Nat.reduceSub, Nat.reduceLeDiff, ne_eq, eq_self, u_3, ag_3, sz_3, by_3, ze_3, es_3, u_4, ag_4, sz_4, by_4, ze_4, bo_4, es_4, u_9, ag_9, sz_9, by_9, ze_9, es_9, u_26, ag_26, sz_26, by_26, ze_26, es_26, u_27, ag_27, sz_27, by_27, ze_27, es_27, ↓AW_loop]
    refine FW.mono (out_broken m 100 a6 hb) (fun v h7 hq => ?_)
    obtain ⟨rfl, a7, u7⟩ := hq
    simp -dsimp -implicitDefEqProofs (disch := first | omega | (simp only [stT, u_3, ag_3, sz_3, by_3, ze_3, es_3, u_4, ag_4, sz_4, by_4, ze_4, bo_4, es_4, u_9, ag_9, sz_9, by_9, ze_9, es_9, u_26, ag_26, sz_26, by_26, ze_26, es_26, u_27, ag_27, sz_27, by_27, ze_27, es_27]; done) | (simp only [List.append_assoc, List.cons_append, List.nil_append, pre_n, pre_c, pre_a, pre_g, pre_r]; done) | (simp only [List.length_set]; done) | (simp only [List.length_set]; omega) | assumption | decide +kernel | fail) only [↓RP, RQ, isConstA, Nat.reduceEqDiff, Nat.reduceLT, Nat.reduceAdd, Int.reduceNeg, Int.reduceLT, Int.reduceLE, Int.reduceToNat, Int.reduceEq, ↓reduceIte, ite_true, ite_false, Option.toList, Nat.reduceMul, Nat.reduceSub, Nat.reduceLeDiff, ne_eq, eq_self, u_3, ag_3, sz_3, by_3, ze_3, es_3, u_4, ag_4, sz_4, by_4, ze_4, bo_4, es_4, u_9, ag_9, sz_9, by_9, ze_9, es_9, u_26, ag_26, sz_26, by_26, ze_26, es_26, u_27, ag_27, sz_27, by_27, ze_27, es_27, ↓AW_loop]
end Go.Abs
/- Mx23: the walk of talk. Conditions: none. -/
set_option maxRecDepth 100000
set_option linter.unusedSimpArgs false
set_option linter.unusedVariables false
namespace Go.Abs
open Go.Proofs
theorem Upd.dis {h h' : AHeap} {F F' G : List Nat} (u : Upd h h' F F') (hl : ∀ q, q ∈ G → q < h.length) (d : ∀ q, q ∈ F → q ∉ G) : ∀ q, q ∈ F' → q ∉ G := by
  intro q hq hg
  rcases u.own q hq with h1 | h1
  · exact d q h1 hg
  · have := hl q hg; omega
/-- Two ends and what was read of them, each in its own blocks; the blocks that Wp names stand as they stood in hW. -/
structure TW (Wp : Nat → Prop) (hW h : AHeap) (pa pb : Nat) (sa sb : Option Nat) (ia ib : List Nat) (la lb : Option Nat) (a b : MuxS) (R Q : List (List UInt8)) : Prop where
  ma : MuxAt h pa sa ia a
  mb : MuxAt h pb sb ib b
  oa : OwnV h la (R.map strV)
  ob : OwnV h lb (Q.map strV)
  dab : ∀ q, q ∈ foot pa sa ia → q ∉ foot pb sb ib
  da1 : ∀ q, la = some q → q ∉ foot pa sa ia
  db1 : ∀ q, la = some q → q ∉ foot pb sb ib
  da2 : ∀ q, lb = some q → q ∉ foot pa sa ia
  db2 : ∀ q, lb = some q → q ∉ foot pb sb ib
  dl : ∀ q, la = some q → lb ≠ some q
  na : ∀ q, q ∈ foot pa sa ia → ¬ Wp q
  nb : ∀ q, q ∈ foot pb sb ib → ¬ Wp q
  n1 : ∀ q, la = some q → ¬ Wp q
  n2 : ∀ q, lb = some q → ¬ Wp q
  wl : ∀ q, Wp q → q < hW.length
  len : hW.length ≤ h.length
  keep : ∀ q, Wp q → h[q]? = hW[q]?
section
variable {Wp : Nat → Prop} {hW h h' : AHeap} {pa pb : Nat} {sa sb sa' sb' : Option Nat} {ia ib ia' ib' : List Nat} {la lb la' lb' : Option Nat} {a b a' b' : MuxS} {R Q R' Q' : List (List UInt8)}
theorem new_of {F F' : List Nat} (wl : ∀ q, Wp q → q < hW.length) (len : hW.length ≤ h.length) (u : Upd h h' F F') (hF : ∀ q, q ∈ F → ¬ Wp q) : ∀ q, q ∈ F' → ¬ Wp q := by
  intro q hq hw
  rcases u.own q hq with h1 | h1
  · exact hF q h1 hw
  · have := wl q hw; omega
theorem keep_of {F F' : List Nat} (wl : ∀ q, Wp q → q < hW.length) (len : hW.length ≤ h.length) (u : Upd h h' F F') (hF : ∀ q, q ∈ F → ¬ Wp q) (k : ∀ q, Wp q → h[q]? = hW[q]?) : ∀ q, Wp q → h'[q]? = hW[q]? := by
  intro q hw
  have := wl q hw
  rw [u.same q (by omega) (fun hq => hF q hq hw), k q hw]
theorem TW.stepA (t : TW Wp hW h pa pb sa sb ia ib la lb a b R Q) (m : MuxAt h' pa sa' ia' a') (u : Upd h h' (foot pa sa ia) (foot pa sa' ia')) : TW Wp hW h' pa pb sa' sb ia' ib la lb a' b R Q where
  ma := m
  mb := t.mb.upd u (fun q h1 h2 => t.dab q h2 h1)
  oa := t.oa.upd u t.da1
  ob := t.ob.upd u t.da2
  dab := u.dis t.mb.fl t.dab
  da1 := fun q hq hm => u.dis (G := [q]) (fun z hz => by rw [List.mem_singleton] at hz; subst hz; exact t.oa.lt hq) (fun z hz hg => by rw [List.mem_singleton] at hg; subst hg; exact t.da1 z hq hz) q hm (by simp)
  db1 := t.db1
  da2 := fun q hq hm => u.dis (G := [q]) (fun z hz => by rw [List.mem_singleton] at hz; subst hz; exact t.ob.lt hq) (fun z hz hg => by rw [List.mem_singleton] at hg; subst hg; exact t.da2 z hq hz) q hm (by simp)
  db2 := t.db2
  dl := t.dl
  na := new_of t.wl t.len u t.na
  nb := t.nb
  n1 := t.n1
  n2 := t.n2
  wl := t.wl
  len := Nat.le_trans t.len u.len
  keep := keep_of t.wl t.len u t.na t.keep
theorem TW.flip (t : TW Wp hW h pa pb sa sb ia ib la lb a b R Q) : TW Wp hW h pb pa sb sa ib ia lb la b a Q R where
  ma := t.mb
  mb := t.ma
  oa := t.ob
  ob := t.oa
  dab := fun q h1 h2 => t.dab q h2 h1
  da1 := t.db2
  db1 := t.da2
  da2 := t.db1
  db2 := t.da1
  dl := fun q h1 h2 => t.dl q h2 h1
  na := t.nb
  nb := t.na
  n1 := t.n2
  n2 := t.n1
  wl := t.wl
  len := t.len
  keep := t.keep
theorem TW.stepB (t : TW Wp hW h pa pb sa sb ia ib la lb a b R Q) (m : MuxAt h' pb sb' ib' b') (u : Upd h h' (foot pb sb ib) (foot pb sb' ib')) : TW Wp hW h' pa pb sa sb' ia ib' la lb a b' R Q := (t.flip.stepA m u).flip
theorem TW.readB (t : TW Wp hW h pa pb sa sb ia ib la lb a b R Q) (m : MuxAt h' pb sb ib b') (o : OwnV h' la' (R'.map strV)) (hf : ∀ q, la' = some q → q ∉ foot pb sb ib) (u : Upd h h' (la.toList ++ foot pb sb ib) (la'.toList ++ foot pb sb ib)) : TW Wp hW h' pa pb sa sb ia ib la' lb a b' R' Q := by
  have hF : ∀ q, q ∈ la.toList ++ foot pb sb ib → ¬ Wp q := fun q hq => by
    rcases List.mem_append.1 hq with hq | hq
    · exact t.n1 q (by simpa using hq)
    · exact t.nb q hq
  have hN := new_of t.wl t.len u hF
  have hA : ∀ q, q ∈ foot pa sa ia → q ∉ la.toList ++ foot pb sb ib := fun q hq hm => by
    rcases List.mem_append.1 hm with hm | hm
    · exact t.da1 q (by simpa using hm) hq
    · exact t.dab q hq hm
  have hB : ∀ q, lb = some q → q ∉ la.toList ++ foot pb sb ib := fun q hq hm => by
    rcases List.mem_append.1 hm with hm | hm
    · exact t.dl q (by simpa using hm) hq
    · exact t.db2 q hq hm
  have hA' := u.dis t.ma.fl (fun q h1 h2 => hA q h2 h1)
  refine { ma := t.ma.upd u hA, mb := m, oa := o, ob := t.ob.upd u hB, dab := t.dab, da1 := fun q hq hm => hA' q (by simp [hq]) hm, db1 := hf, da2 := t.da2, db2 := t.db2, dl := fun q h1 h2 => ?_, na := t.na, nb := t.nb, n1 := fun q hq => hN q (by simp [hq]), n2 := t.n2, wl := t.wl, len := Nat.le_trans t.len u.len, keep := keep_of t.wl t.len u hF t.keep }
  refine u.dis (G := [q]) (fun z hz => ?_) (fun z hz hg => ?_) q (by simp [h1]) (by simp)
  · rw [List.mem_singleton] at hz; subst hz; exact t.ob.lt h2
  · rw [List.mem_singleton] at hg; subst hg; exact hB z h2 hz
theorem TW.app (t : TW Wp hW h pa pb sa sb ia ib la lb a b R Q) (g : AHeap) : TW Wp hW (h ++ g) pa pb sa sb ia ib la lb a b R Q := t.stepA (t.ma.app g) (Upd.app h g _)
end
/-! ### what the first end receives -/
structure IA (w : Nat) (rest : List UInt8) (m : MuxS) : Prop where
  win : m.window = w
  w2 : w ≤ 256
  len : m.streams.length ≤ 16
  got : m.got.length ≤ 2 ^ 30
  bs : ∀ s, s ∈ m.streams → s.window ≤ 256 ∧ s.room ≤ 256 ∧ s.inn.length ≤ 2 ^ 20
  wire : ∃ G : List Fr, (∀ f, f ∈ G → f.ok ∧ f.kind = 5) ∧ m.got ++ rest = encF G
theorem IA.front {w : Nat} {rest : List UInt8} {m : MuxS} (i : IA w rest m) (hl : 5 + (byteN m.got 3 * 256 + byteN m.got 4) ≤ m.got.length) : byteN m.got 0 = 5 ∧ ∃ G : List Fr, (∀ f, f ∈ G → f.ok ∧ f.kind = 5) ∧ m.got.drop (5 + (byteN m.got 3 * 256 + byteN m.got 4)) ++ rest = encF G := by
  obtain ⟨G, hG, hw⟩ := i.wire
  cases G with
  | nil =>
    have := congrArg List.length hw
    rw [encF_nil, List.length_append] at this
    simp at this
    have h2 : m.got.length = 0 := by rw [this.1]; rfl
    omega
  | cons f G =>
    obtain ⟨ok, k5⟩ := hG f (by simp)
    rw [encF_cons] at hw
    obtain ⟨p0, p1, p2⟩ := enc_parse ok (encF G)
    rw [← hw] at p0 p1 p2
    rw [byteN_app rest (by omega)] at p0
    rw [byteN_app rest (by omega), byteN_app rest (by omega)] at p2
    refine ⟨by rw [p0, k5], G, fun g hg => hG g (by simp [hg]), ?_⟩
    have h5 : (m.got ++ rest).drop (5 + f.body.length) = (f.enc ++ encF G).drop (5 + f.body.length) := by rw [hw]
    rw [p2] at hl ⊢
    rw [List.drop_append_of_le_length hl, (enc_drop f (encF G)).2] at h5
    exact h5
theorem IA.ok (w : Nat) (rest : List UInt8) : InOk2 (IA w rest) where
  safe m i hl h2 := by have := (i.front hl).1; omega
  bnd m i := ⟨by have := i.len; omega, by rw [i.win]; have := i.w2; omega, by have := i.got; omega, fun s hs => by have := i.bs s hs; omega⟩
  step m i hl he := by
    obtain ⟨h5, hw⟩ := i.front hl
    have hgl := i.got
    have hdl : (m.got.drop (5 + (byteN m.got 3 * 256 + byteN m.got 4))).length ≤ 2 ^ 30 := by rw [List.length_drop]; omega
    have i1 : IA w rest { m with got := m.got.drop (5 + (byteN m.got 3 * 256 + byteN m.got 4)) } := ⟨i.win, i.w2, i.len, hdl, i.bs, hw⟩
    generalize (m.got.drop 5).take (byteN m.got 3 * 256 + byteN m.got 4) = body at *
    generalize byteN m.got 1 * 256 + byteN m.got 2 = id at *
    generalize hd : m.got.drop (5 + (byteN m.got 3 * 256 + byteN m.got 4)) = d at *
    rw [h5] at he ⊢
    unfold gotM
    rw [if_neg (by decide), if_neg (by rw [he]; simp)]
    split
    · exact i1
    · rename_i s hs
      refine ⟨i.win, i.w2, by simp only [List.length_set]; exact i.len, hdl, fun t ht => ?_, hw⟩
      rcases List.mem_or_eq_of_mem_set ht with ht | rfl
      · exact i.bs t ht
      · have hb := i.bs s (List.mem_of_getElem? hs)
        have hbe : bodyE { m with got := d } s 5 body = 0 := by
          unfold gotE at he
          rw [if_neg (by decide), if_neg (by decide)] at he
          split at he
          · simp at he
          · rw [hs] at he; exact he
        have h4 := (bodyE_iff.1 hbe).2.2.2
        unfold bodyS
        rw [if_neg (by decide), if_neg (by decide), if_neg (by decide)]
        simp only
        refine ⟨?_, hb.2.1, hb.2.2⟩
        have hwin : ({ m with got := d } : MuxS).window = w := i.win
        have := i.w2
        by_cases hh : ({ m with got := d } : MuxS).window < s.window + two body
        · exact absurd ⟨rfl, .inr hh⟩ h4
        · omega
section
variable {w : Nat} {T : List Pl} {R : List (List UInt8)} {x y : List UInt8} {a b : MuxS} {F : List Fr} {B : List Strm} {G : List Fr}
theorem J.outle (j : J w T R x y a b F B G) : ∀ s, s ∈ a.streams → s.window ≤ 256 ∧ s.out.length ≤ 4096 := by
  intro s hs
  obtain ⟨i, hi⟩ := List.getElem?_of_mem hs
  obtain ⟨sb, t, h1, h2, r⟩ := j.at hi
  have h3 := (j.tr t (List.mem_of_getElem? h2)).2
  have h4 := r.win
  have h5 := r.room
  have h6 := j.w2
  rw [r.txt, List.length_append, List.length_append] at h3
  omega
theorem J.mbA (j : J w T R x y a b F B G) (hp : Phi T R a b ≤ 2 ^ 20) : MB a := by
  unfold Phi pA at hp
  exact ⟨j.ab, by omega, by omega, fun s hs => by have := j.outle s hs; omega⟩
theorem J.mbB (j : J w T R x y a b F B G) (hp : Phi T R a b ≤ 2 ^ 20) : MB b := by
  unfold Phi pA at hp
  refine ⟨j.bb, by omega, by omega, fun s hs => ?_⟩
  have := j.bk s hs
  rw [this.out]
  have := this.win
  have := j.w2
  simp only [List.length_nil]
  omega
theorem J.ia (j : J w T R x y a b F B G) (hy : y.length ≤ 4096) : IA w (b.ready ++ b.control) { a with got := a.got ++ y } := by
  have hag := j.ag
  refine ⟨j.aw, j.w2, by simp only; rw [j.n]; exact j.n16, by simp only [List.length_append]; omega, fun s hs => ?_, G, fun f hf => ⟨gok_ok j.n16 (j.okG f hf), (j.okG f hf).kind⟩, ?_⟩
  · obtain ⟨i, hi⟩ := List.getElem?_of_mem hs
    obtain ⟨sb, t, h1, h2, r⟩ := j.at hi
    have h3 := (j.outle s hs).1
    have h4 := r.rmm
    have h5 := j.w2
    rw [r.inn]
    simp only [List.length_nil]
    omega
  · simp only
    rw [List.append_assoc]; exact j.wireG
theorem J.rokB (j : J w T R x y a b F B G) (hp : Phi T R a b ≤ 2 ^ 20) : ROk (2 ^ 20) b := by
  unfold Phi pA at hp
  refine ⟨j.bb, by omega, by rw [j.bw]; exact j.w2, j.idsb, fun s hs => ?_⟩
  have := (j.bk s hs).sum
  have := j.w2
  omega
theorem J.rokA (j : J w T R x y a b F B G) (hp : Phi T R a b ≤ 2 ^ 20) : ROk (2 ^ 20) a := by
  unfold Phi pA at hp
  refine ⟨j.ab, by omega, by rw [j.aw]; exact j.w2, j.ids, fun s hs => ?_⟩
  obtain ⟨i, hi⟩ := List.getElem?_of_mem hs
  obtain ⟨sb, t, h1, h2, r⟩ := j.at hi
  have h4 := r.rmm
  have h5 := j.w2
  rw [r.inn, r.tak]
  simp only [List.length_nil]
  omega
theorem J.rdle (j : J w T R x y a b F B G) : ∀ i, (rd R i).length ≤ 4096 := by
  intro i
  by_cases hi : i < T.length
  · obtain ⟨sa, hsa⟩ : ∃ sa, a.streams[i]? = some sa := ⟨_, List.getElem?_eq_getElem (by have := j.n; omega)⟩
    obtain ⟨sb, t, h1, h2, r⟩ := j.at hsa
    have h3 := (j.tr t (List.mem_of_getElem? h2)).2
    rw [r.txt, List.length_append, List.length_append] at h3
    omega
  · have := j.rl
    have := j.lenb
    unfold rd
    rw [List.getElem?_eq_none (by omega)]
    simp
end
end Go.Abs
/- Mx24: the walk of talk, on. Conditions: none. -/
set_option maxRecDepth 100000
set_option linter.unusedSimpArgs false
set_option linter.unusedVariables false
namespace Go.Abs
open Go.Proofs
theorem talkL_nil (L : List (List UInt8)) (k : Nat) : (talkL L k []).length ≤ max L.length (k + 1) ∧ ∀ i, rd (talkL L k []) i = rd L i := by
  by_cases hk : k ≤ L.length
  · obtain ⟨h1, h2, h3⟩ := talkL_spec [] hk
    refine ⟨by rw [h1]; exact Nat.le_refl _, fun i => ?_⟩
    by_cases hi : i = k
    · subst hi; rw [h2, List.append_nil]
    · exact h3 i hi
  · have h1 : ¬ k = L.length := by omega
    unfold talkL
    simp only [if_neg h1]
    rw [if_neg (by omega)]
    exact ⟨by omega, fun i => rfl⟩
theorem read_none2 (m : MuxS) (hw : 1 ≤ m.window) (hs : ∀ s, s ∈ m.streams → s.inn = [] ∧ s.taken = 0) : ∀ (r k : Nat) (L : List (List UInt8)), r + k = m.streams.length → (readGo r k m L).2.length ≤ max L.length m.streams.length ∧ ∀ i, rd (readGo r k m L).2 i = rd L i := by
  intro r
  induction r with
  | zero => intro k L _; exact ⟨by simp only [readGo]; omega, fun i => rfl⟩
  | succ r ih =>
    intro k L hk
    obtain ⟨s, h⟩ : ∃ s, m.streams[k]? = some s := ⟨_, List.getElem?_eq_getElem (by omega)⟩
    rw [readGo_some h]
    obtain ⟨h1, h2⟩ := hs s (List.mem_of_getElem? h)
    have e : readM m k s s.id (min 4096 s.inn.length) = m := by
      have := read_none m hw hs 1 k L
      rw [readGo_some h] at this
      exact this
    obtain ⟨q1, q2⟩ := talkL_nil L k
    rw [e, h1, List.take_nil]
    obtain ⟨q3, q4⟩ := ih (k + 1) (talkL L k []) (by omega)
    exact ⟨by omega, fun i => by rw [q4, q2]⟩
def bytes10 (ls : List Int) (k : Nat) : Nat := 10 + (max 0 (atS ls k 20)).toNat % 90
theorem bytes10_le (ls : List Int) (k : Nat) : 10 ≤ bytes10 ls k ∧ bytes10 ls k ≤ 99 := by unfold bytes10; omega
theorem talk_q {w : Nat} {T : List Pl} {a b : MuxS} {F : List Fr} {B : List Strm} {G : List Fr} (j : J w T [] [] [] a b F B G) (hT : ∀ t, t ∈ T → t.ends = true ∨ t.reset = true) (C rounds : Nat) (hp : Phi T [] a b + 5 ≤ C) (hC : C < 5 * rounds) (hr : rounds < 2 ^ 20) (hC2 : C ≤ 2 ^ 20)
    {Wp : Nat → Prop} {h0 h : AHeap} {pa pb : Nat} {sa sb : Option Nat} {ia ib : List Nat} (tw : TW Wp h0 h pa pb sa sb ia ib none none a b [] []) (ls : List Int) {ai : Option Addr} {mi : Nat} (hsi : ∀ h' : AHeap, (∀ q, Wp q → h'[q]? = h0[q]?) → SlA intE 1 true h' ai ls) (hls : ls.length < 2 ^ 50) :
    FW cx 20 [ptrC pa, ptrC pb, .slice ai ls.length mi, .int .i64 rounds] h fun v h' => ∃ sa' sb' ia' ib' la lb a' b' R Q F' B' G', v = .tuple #[.slice (slA la) R.length R.length, .slice (slA lb) (Q : List (List UInt8)).length Q.length] ∧ TW Wp h0 h' pa pb sa' sb' ia' ib' la lb a' b' R Q ∧
      J w T R [] [] a' b' F' B' G' ∧ Clean a' b' ∧ Fin a' ∧ R.length = b'.streams.length ∧ Phi T R a' b' ≤ 2 ^ 20 := by
  refine FW_f Try.func20 rfl (by decide +kernel) ?_
  simp -dsimp -implicitDefEqProofs (disch := first | omega | (simp only [stT, u_3, ag_3, sz_3, by_3, ze_3, es_3, u_9, ag_9, sz_9, by_9, ze_9, es_9, u_22, ag_22, sz_22, by_22, ze_22, es_22, u_23, ag_23, sz_23, by_23, ze_23, es_23, u_26, ag_26, sz_26, by_26, ze_26, es_26]; done) | (simp only [List.append_assoc, List.cons_append, List.nil_append, pre_n, pre_c, pre_a, pre_g, pre_r]; done) | (simp only [List.length_set]; done) | (simp only [List.length_set]; omega) | assumption | decide +kernel | fail) only [↓RP, RQ, isConstA, Nat.reduceEqDiff, Nat.reduceLT, Nat.reduceAdd, Int.reduceNeg, Int.reduceLT, Int.reduceLE, Int.reduceToNat, Int.reduceEq, ↓reduceIte, ite_true, ite_false, Option.toList, Nat.reduceMul, Nat.reduceSub, Nat.reduceLeDiff, ne_eq, eq_self, u_3, ag_3, sz_3, by_3, ze_3, es_3, u_9, ag_9, sz_9, by_9, ze_9, es_9, u_22, ag_22, sz_22, by_22, ze_22, es_22, u_23, ag_23, sz_23, by_23, ze_23, es_23, u_26, ag_26, sz_26, by_26, ze_26, es_26, ↓AW_loop]
  refine LW_rule (fun n fr h' => ∃ (k : Nat) (sa' sb' : Option Nat) (ia' ib' : List Nat) (la lb : Option Nat) (a' b' : MuxS) (R Q : List (List UInt8)), k ≤ rounds ∧ n = rounds - k ∧ fget fr 14 = .int .i64 k ∧ fget fr 13 = .int .i64 rounds ∧ fget fr 0 = ptrC pa ∧ fget fr 1 = ptrC pb ∧ fget fr 2 = .slice ai ls.length mi ∧ fget fr 10 = .func (.func 32) #[] #[] ∧
      fget fr 8 = .slice (slA la) R.length R.length ∧ fget fr 9 = .slice (slA lb) Q.length Q.length ∧ TW Wp h0 h' pa pb sa' sb' ia' ib' la lb a' b' R Q ∧ (∃ F' B' G', J w T R [] [] a' b' F' B' G') ∧ Prog k C T R a' b' ∧ Phi T R a' b' ≤ 2 ^ 20 ∧ (1 ≤ k → R.length = b'.streams.length) ∧ Q.length ≤ 16 ∧ ∀ i, rd Q i = []) ?_ rounds _ _
    ⟨0, sa, sb, ia, ib, none, none, a, b, [], [], by omega, rfl, ?_⟩
  · rintro n fr h' ⟨k, sa', sb', ia', ib', la, lb, a', b', R, Q, hk, hn, f14, f13, f0, f1, f2, f10, f8, f9, t, ⟨F', B', G', jj⟩, hprog, hphi, hRl, hQl, hQ⟩
    by_cases hlt : k < rounds
    · have hlt' : (k : Int) < rounds := by omega
      have hs' := hsi h' t.keep
      simp -dsimp -implicitDefEqProofs (disch := first | omega | (simp only [stT, u_3, ag_3, sz_3, by_3, ze_3, es_3, u_9, ag_9, sz_9, by_9, ze_9, es_9, u_22, ag_22, sz_22, by_22, ze_22, es_22, u_23, ag_23, sz_23, by_23, ze_23, es_23, u_26, ag_26, sz_26, by_26, ze_26, es_26]; done) | (simp only [List.append_assoc, List.cons_append, List.nil_append, pre_n, pre_c, pre_a, pre_g, pre_r]; done) | (simp only [List.length_set]; done) | (simp only [List.length_set]; omega) | assumption | decide +kernel | fail) only [↓RP, RQ, isConstA, Nat.reduceEqDiff, Nat.reduceLT, Nat.reduceAdd, Int.reduceNeg, Int.reduceLT, Int.reduceLE, Int.reduceToNat, Int.reduceEq, ↓reduceIte, ite_true, ite_false, Option.toList, Nat.reduceMul, Nat.reduceSub, Nat.reduceLeDiff, ne_eq, eq_self, u_3, ag_3, sz_3, by_3, ze_3, es_3, u_9, ag_9, sz_9, by_9, ze_9, es_9, u_22, ag_22, sz_22, by_22, ze_22, es_22, u_23, ag_23, sz_23, by_23, ze_23, es_23, u_26, ag_26, sz_26, by_26, ze_26, es_26, ↓AW_loop, f14, f13, f0, f1, f2, hlt']
      refine (at_q ls k 20 (by omega) hs' hls).use' fun g => ?_
      have hmx : foldA max2A (Value.int .i64 0) [.int .i64 (atS ls k 20)] = some (.int .i64 (((max 0 (atS ls k 20)).toNat : Nat) : Int)) := by
        simp only [foldA, max2A]; congr 2; split <;> omega
      obtain ⟨n10, n99⟩ := bytes10_le ls k
      have hN0 : bytes10 ls k = 10 + (max 0 (atS ls k 20)).toNat % 90 := rfl
      generalize hNN : bytes10 ls k = N at n10 n99 hN0
      generalize (max 0 (atS ls k 20)).toNat = cc at hmx hN0
      have hrem : (cc : Int).tmod 90 = ((cc % 90 : Nat) : Int) := (Int.ofNat_tmod _ 90).symm
      have hadd : (10 : Int) + ((cc % 90 : Nat) : Int) = ((N : Nat) : Int) := by omega
      obtain ⟨b1, a1, e1, e2, e3, ⟨_, _, _, j2⟩, ⟨_, _, _, j3⟩, ⟨_, _, _, j4⟩, ⟨_, _, _, j5⟩, p2, p5, p3, hpr, hlen⟩ := jj.round n10 (by omega) hT Q
      have l1 := outB_len N a'
      have l2 := outB_len N (readAll b1 R).1
      simp -dsimp -implicitDefEqProofs (disch := first | omega | (simp only [stT, u_3, ag_3, sz_3, by_3, ze_3, es_3, u_9, ag_9, sz_9, by_9, ze_9, es_9, u_22, ag_22, sz_22, by_22, ze_22, es_22, u_23, ag_23, sz_23, by_23, ze_23, es_23, u_26, ag_26, sz_26, by_26, ze_26, es_26]; done) | (simp only [List.append_assoc, List.cons_append, List.nil_append, pre_n, pre_c, pre_a, pre_g, pre_r]; done) | (simp only [List.length_set]; done) | (simp only [List.length_set]; omega) | assumption | decide +kernel | fail) only [↓RP, RQ, isConstA, Nat.reduceEqDiff, Nat.reduceLT, Nat.reduceAdd, Int.reduceNeg, Int.reduceLT, Int.reduceLE, Int.reduceToNat, Int.reduceEq, ↓reduceIte, ite_true, ite_false, Option.toList, Nat.reduceMul, Nat.reduceSub, Nat.reduceLeDiff, ne_eq, eq_self, u_3, ag_3, sz_3, by_3, ze_3, es_3, u_9, ag_9, sz_9, by_9, ze_9, es_9, u_22, ag_22, sz_22, by_22, ze_22, es_22, u_23, ag_23, sz_23, by_23, ze_23, es_23, u_26, ag_26, sz_26, by_26, ze_26, es_26, ↓AW_loop, f14, f13, f0, f1, f2, f10, hmx, hrem, hadd]
      have t1 := t.app g
      have hla := t.ma.len
      have hlb := t.mb.len
      have hn1 := jj.n
      have hn2 := jj.n16
      have hn3 := jj.lenb
      refine FW.mono (out_q a' N (by omega) t1.ma (by omega) (jj.mbA hphi)) (fun v h1 hq => ?_)
      obtain ⟨rfl, ma1, u1⟩ := hq
      have t2 := t1.stepA ma1 u1
      simp -dsimp -implicitDefEqProofs (disch := first | omega | (simp only [stT, u_3, ag_3, sz_3, by_3, ze_3, es_3, u_9, ag_9, sz_9, by_9, ze_9, es_9, u_22, ag_22, sz_22, by_22, ze_22, es_22, u_23, ag_23, sz_23, by_23, ze_23, es_23, u_26, ag_26, sz_26, by_26, ze_26, es_26]; done) | (simp only [List.append_assoc, List.cons_append, List.nil_append, pre_n, pre_c, pre_a, pre_g, pre_r]; done) | (simp only [List.length_set]; done) | (simp only [List.length_set]; omega) | assumption | decide +kernel | fail) only [↓RP, RQ, isConstA, Nat.reduceEqDiff, Nat.reduceLT, Nat.reduceAdd, Int.reduceNeg, Int.reduceLT, Int.reduceLE, Int.reduceToNat, Int.reduceEq, ↓reduceIte, ite_true, ite_false, Option.toList, Nat.reduceMul, Nat.reduceSub, Nat.reduceLeDiff, ne_eq, eq_self, u_3, ag_3, sz_3, by_3, ze_3, es_3, u_9, ag_9, sz_9, by_9, ze_9, es_9, u_22, ag_22, sz_22, by_22, ze_22, es_22, u_23, ag_23, sz_23, by_23, ze_23, es_23, u_26, ag_26, sz_26, by_26, ze_26, es_26, ↓AW_loop, f14, f13, f0, f1, f2, f10]
      refine FW.mono (in_q JInv JInv.ok b' (outB N a').1 t2.mb (by omega) (fun _ => by have := jj.bg; omega) (fun _ _ => jj.jinv _ (by omega))) (fun v h2 hq => ?_)
      obtain ⟨rfl, sb2, ib2, mb2, u2⟩ := hq
      rw [e1] at mb2 ⊢
      have t3 := t2.stepB mb2 u2
      simp -dsimp -implicitDefEqProofs (disch := first | omega | (simp only [stT, u_3, ag_3, sz_3, by_3, ze_3, es_3, u_9, ag_9, sz_9, by_9, ze_9, es_9, u_22, ag_22, sz_22, by_22, ze_22, es_22, u_23, ag_23, sz_23, by_23, ze_23, es_23, u_26, ag_26, sz_26, by_26, ze_26, es_26]; done) | (simp only [List.append_assoc, List.cons_append, List.nil_append, pre_n, pre_c, pre_a, pre_g, pre_r]; done) | (simp only [List.length_set]; done) | (simp only [List.length_set]; omega) | assumption | decide +kernel | fail) only [↓RP, RQ, isConstA, Nat.reduceEqDiff, Nat.reduceLT, Nat.reduceAdd, Int.reduceNeg, Int.reduceLT, Int.reduceLE, Int.reduceToNat, Int.reduceEq, ↓reduceIte, ite_true, ite_false, Option.toList, Nat.reduceMul, Nat.reduceSub, Nat.reduceLeDiff, ne_eq, eq_self, u_3, ag_3, sz_3, by_3, ze_3, es_3, u_9, ag_9, sz_9, by_9, ze_9, es_9, u_22, ag_22, sz_22, by_22, ze_22, es_22, u_23, ag_23, sz_23, by_23, ze_23, es_23, u_26, ag_26, sz_26, by_26, ze_26, es_26, ↓AW_loop, f14, f13, f0, f1, f2, f10, f8]
      have hn4 := j2.lenb
      have hR1 := j2.rl
      refine FW.mono (reads_q (2 ^ 20) b1 R t3.mb (by omega) (j2.rokB (by omega)) (by decide) t3.oa t3.db1 (by omega) (fun i => by have := j2.rdle i; omega)) (fun v h3 hq => ?_)
      obtain ⟨la3, rfl, oa3, mb3, u3, hf3⟩ := hq
      have t4 := t3.readB mb3 oa3 hf3 u3
      simp -dsimp -implicitDefEqProofs (disch := first | omega | (simp only [stT, u_3, ag_3, sz_3, by_3, ze_3, es_3, u_9, ag_9, sz_9, by_9, ze_9, es_9, u_22, ag_22, sz_22, by_22, ze_22, es_22, u_23, ag_23, sz_23, by_23, ze_23, es_23, u_26, ag_26, sz_26, by_26, ze_26, es_26]; done) | (simp only [List.append_assoc, List.cons_append, List.nil_append, pre_n, pre_c, pre_a, pre_g, pre_r]; done) | (simp only [List.length_set]; done) | (simp only [List.length_set]; omega) | assumption | decide +kernel | fail) only [↓RP, RQ, isConstA, Nat.reduceEqDiff, Nat.reduceLT, Nat.reduceAdd, Int.reduceNeg, Int.reduceLT, Int.reduceLE, Int.reduceToNat, Int.reduceEq, ↓reduceIte, ite_true, ite_false, Option.toList, Nat.reduceMul, Nat.reduceSub, Nat.reduceLeDiff, ne_eq, eq_self, u_3, ag_3, sz_3, by_3, ze_3, es_3, u_9, ag_9, sz_9, by_9, ze_9, es_9, u_22, ag_22, sz_22, by_22, ze_22, es_22, u_23, ag_23, sz_23, by_23, ze_23, es_23, u_26, ag_26, sz_26, by_26, ze_26, es_26, ↓AW_loop, f14, f13, f0, f1, f2, f10]
      have hlb4 := t4.mb.len
      have hn5 := j3.lenb
      refine FW.mono (out_q (readAll b1 R).1 N (by omega) t4.mb (by omega) (j3.mbB (by omega))) (fun v h4 hq => ?_)
      obtain ⟨rfl, mb4, u4⟩ := hq
      have t5 := t4.stepB mb4 u4
      simp -dsimp -implicitDefEqProofs (disch := first | omega | (simp only [stT, u_3, ag_3, sz_3, by_3, ze_3, es_3, u_9, ag_9, sz_9, by_9, ze_9, es_9, u_22, ag_22, sz_22, by_22, ze_22, es_22, u_23, ag_23, sz_23, by_23, ze_23, es_23, u_26, ag_26, sz_26, by_26, ze_26, es_26]; done) | (simp only [List.append_assoc, List.cons_append, List.nil_append, pre_n, pre_c, pre_a, pre_g, pre_r]; done) | (simp only [List.length_set]; done) | (simp only [List.length_set]; omega) | assumption | decide +kernel | fail) only [↓RP, RQ, isConstA, Nat.reduceEqDiff, Nat.reduceLT, Nat.reduceAdd, Int.reduceNeg, Int.reduceLT, Int.reduceLE, Int.reduceToNat, Int.reduceEq, ↓reduceIte, ite_true, ite_false, Option.toList, Nat.reduceMul, Nat.reduceSub, Nat.reduceLeDiff, ne_eq, eq_self, u_3, ag_3, sz_3, by_3, ze_3, es_3, u_9, ag_9, sz_9, by_9, ze_9, es_9, u_22, ag_22, sz_22, by_22, ze_22, es_22, u_23, ag_23, sz_23, by_23, ze_23, es_23, u_26, ag_26, sz_26, by_26, ze_26, es_26, ↓AW_loop, f14, f13, f0, f1, f2, f10]
      refine FW.mono (in_q2 _ (IA.ok w ((outB N (readAll b1 R).1).2.ready ++ (outB N (readAll b1 R).1).2.control)) (outB N a').2 (outB N (readAll b1 R).1).1 t5.ma (by omega) (fun _ => by have := j4.ag; omega) (fun _ _ => j4.ia (by omega))) (fun v h5 hq => ?_)
      obtain ⟨rfl, sa6, ia6, ma6, u6⟩ := hq
      rw [e2] at ma6 ⊢
      have t6 := t5.stepA ma6 u6
      simp -dsimp -implicitDefEqProofs (disch := first | omega | (simp only [stT, u_3, ag_3, sz_3, by_3, ze_3, es_3, u_9, ag_9, sz_9, by_9, ze_9, es_9, u_22, ag_22, sz_22, by_22, ze_22, es_22, u_23, ag_23, sz_23, by_23, ze_23, es_23, u_26, ag_26, sz_26, by_26, ze_26, es_26]; done) | (simp only [List.append_assoc, List.cons_append, List.nil_append, pre_n, pre_c, pre_a, pre_g, pre_r]; done) | (simp only [List.length_set]; done) | (simp only [List.length_set]; omega) | assumption | decide +kernel | fail) only [↓RP, RQ, isConstA, Nat.reduceEqDiff, Nat.reduceLT, Nat.reduceAdd, Int.reduceNeg, Int.reduceLT, Int.reduceLE, Int.reduceToNat, Int.reduceEq, ↓reduceIte, ite_true, ite_false, Option.toList, Nat.reduceMul, Nat.reduceSub, Nat.reduceLeDiff, ne_eq, eq_self, u_3, ag_3, sz_3, by_3, ze_3, es_3, u_9, ag_9, sz_9, by_9, ze_9, es_9, u_22, ag_22, sz_22, by_22, ze_22, es_22, u_23, ag_23, sz_23, by_23, ze_23, es_23, u_26, ag_26, sz_26, by_26, ze_26, es_26, ↓AW_loop, f14, f13, f0, f1, f2, f10, f9]
      have hn6 := j5.n
      refine FW.mono (reads_q (2 ^ 20) a1 Q t6.ma (by omega) (j5.rokA (by omega)) (by decide) t6.ob t6.da2 (by omega) (fun i => by rw [hQ i]; simp)) (fun v h7 hq => ?_)
      obtain ⟨lb7, rfl, ob7, ma7, u7, hf7⟩ := hq
      have hnone : ∀ s, s ∈ a1.streams → s.inn = [] ∧ s.taken = 0 := fun s hs => by
        obtain ⟨i, hi⟩ := List.getElem?_of_mem hs
        obtain ⟨sb, t, h1, h2, r⟩ := j5.at hi
        exact ⟨r.inn, r.tak⟩
      obtain ⟨ql, qe⟩ := read_none2 a1 (by rw [j5.aw]; exact j5.w1) hnone a1.streams.length 0 Q rfl
      rw [show readGo a1.streams.length 0 a1 Q = readAll a1 Q from rfl] at ql qe
      rw [e3] at ma7
      have t7 := (t6.flip.readB ma7 ob7 hf7 u7).flip
      simp -dsimp -implicitDefEqProofs (disch := first | omega | (simp only [stT, u_3, ag_3, sz_3, by_3, ze_3, es_3, u_9, ag_9, sz_9, by_9, ze_9, es_9, u_22, ag_22, sz_22, by_22, ze_22, es_22, u_23, ag_23, sz_23, by_23, ze_23, es_23, u_26, ag_26, sz_26, by_26, ze_26, es_26]; done) | (simp only [List.append_assoc, List.cons_append, List.nil_append, pre_n, pre_c, pre_a, pre_g, pre_r]; done) | (simp only [List.length_set]; done) | (simp only [List.length_set]; omega) | assumption | decide +kernel | fail) only [↓RP, RQ, isConstA, Nat.reduceEqDiff, Nat.reduceLT, Nat.reduceAdd, Int.reduceNeg, Int.reduceLT, Int.reduceLE, Int.reduceToNat, Int.reduceEq, ↓reduceIte, ite_true, ite_false, Option.toList, Nat.reduceMul, Nat.reduceSub, Nat.reduceLeDiff, ne_eq, eq_self, u_3, ag_3, sz_3, by_3, ze_3, es_3, u_9, ag_9, sz_9, by_9, ze_9, es_9, u_22, ag_22, sz_22, by_22, ze_22, es_22, u_23, ag_23, sz_23, by_23, ze_23, es_23, u_26, ag_26, sz_26, by_26, ze_26, es_26, ↓AW_loop, f14, f13, f0, f1, f2, f10]
      exact ⟨rounds - (k + 1), by omega, k + 1, sa6, sb2, ia6, ib2, la3, lb7, a1, (outB N (readAll b1 R).1).2, (readAll b1 R).2, (readAll a1 Q).2, by omega, rfl, by congr 1, rfl, rfl, t7, ⟨_, _, _, j5⟩, hpr k C hprog, by omega, fun _ => hlen, by omega, fun i => by rw [qe, hQ]⟩
    · have hlt' : ¬ (k : Int) < rounds := by omega
      simp -dsimp -implicitDefEqProofs (disch := first | omega | (simp only [stT, u_3, ag_3, sz_3, by_3, ze_3, es_3, u_9, ag_9, sz_9, by_9, ze_9, es_9, u_22, ag_22, sz_22, by_22, ze_22, es_22, u_23, ag_23, sz_23, by_23, ze_23, es_23, u_26, ag_26, sz_26, by_26, ze_26, es_26]; done) | (simp only [List.append_assoc, List.cons_append, List.nil_append, pre_n, pre_c, pre_a, pre_g, pre_r]; done) | (simp only [List.length_set]; done) | (simp only [List.length_set]; omega) | assumption | decide +kernel | fail) only [↓RP, RQ, isConstA, Nat.reduceEqDiff, Nat.reduceLT, Nat.reduceAdd, Int.reduceNeg, Int.reduceLT, Int.reduceLE, Int.reduceToNat, Int.reduceEq, ↓reduceIte, ite_true, ite_false, Option.toList, Nat.reduceMul, Nat.reduceSub, Nat.reduceLeDiff, ne_eq, eq_self, u_3, ag_3, sz_3, by_3, ze_3, es_3, u_9, ag_9, sz_9, by_9, ze_9, es_9, u_22, ag_22, sz_22, by_22, ze_22, es_22, u_23, ag_23, sz_23, by_23, ze_23, es_23, u_26, ag_26, sz_26, by_26, ze_26, es_26, ↓AW_loop, f14, f13, f8, f9, hlt']
      obtain rfl : k = rounds := by omega
      have hcf : Clean a' b' ∧ Fin a' := by
        rcases hprog with hh | ⟨_, hh⟩ | hh
        · exact hh
        · omega
        · omega
      exact ⟨sa', sb', ia', ib', la, lb, a', b', R, Q, F', B', G', rfl, t, jj, hcf.1, hcf.2, hRl (by omega), hphi⟩
  · simp -dsimp -implicitDefEqProofs (disch := first | omega | (simp only [stT, u_3, ag_3, sz_3, by_3, ze_3, es_3, u_9, ag_9, sz_9, by_9, ze_9, es_9, u_22, ag_22, sz_22, by_22, ze_22, es_22, u_23, ag_23, sz_23, by_23, ze_23, es_23, u_26, ag_26, sz_26, by_26, ze_26, es_26]; done) | (simp only [List.append_assoc, List.cons_append, List.nil_append, pre_n, pre_c, pre_a, pre_g, pre_r]; done) | (simp only [List.length_set]; done) | (simp only [List.length_set]; omega) | assumption | decide +kernel | fail) only [↓RP, RQ, isConstA, Nat.reduceEqDiff, Nat.reduceLT, Nat.reduceAdd, Int.reduceNeg, Int.reduceLT, Int.reduceLE, Int.reduceToNat, Int.reduceEq, ↓reduceIte, ite_true, ite_false, Option.toList, Nat.reduceMul, Nat.reduceSub, Nat.reduceLeDiff, ne_eq, eq_self, u_3, ag_3, sz_3, by_3, ze_3, es_3, u_9, ag_9, sz_9, by_9, ze_9, es_9, u_22, ag_22, sz_22, by_22, ze_22, es_22, u_23, ag_23, sz_23, by_23, ze_23, es_23, u_26, ag_26, sz_26, by_26, ze_26, es_26, ↓AW_loop]
    exact ⟨rfl, rfl, tw, ⟨_, _, _, j⟩, .inr (.inr (by omega)), by omega, fun h => h.elim, fun i => by simp [rd]⟩
end Go.Abs
/- Mx25: lists of texts compared; ends that are built up for a talk. Conditions: none. -/
set_option maxRecDepth 100000
set_option linter.unusedSimpArgs false
set_option linter.unusedVariables false
namespace Go.Abs
open Go.Proofs
theorem SlA.keep {α : Type} {f : α → List Value} {sz : Nat} {ro : Bool} {h h' : AHeap} {a : Option Addr} {l : List α} (s : SlA f sz ro h a l) (hk : ∀ q, q < h.length → h'[q]? = h[q]?) : SlA f sz ro h' a l := by
  rcases s with s | ⟨b, o, cells, h1, h2, h3⟩
  · exact .inl s
  · refine .inr ⟨b, o, cells, h1, ?_, h3⟩
    have hl := blkA_lt h2
    unfold blkA at h2 ⊢
    rw [hk b hl]; exact h2
theorem same_q (R : List (List UInt8)) {h : AHeap} {la lb : Option Nat} (oa : OwnV h la (R.map strV)) (ob : OwnV h lb (R.map strV)) (hR : R.length < 2 ^ 40) : Quiet cx 21 [.slice (slA la) R.length R.length, .slice (slA lb) R.length R.length] h (.bool true) := by
  refine FW_f Try.func21 rfl (by decide +kernel) ?_
  simp -dsimp -implicitDefEqProofs (disch := first | omega | (simp only [stT, u_3, ag_3, sz_3, by_3, ze_3, es_3, u_4, ag_4, sz_4, by_4, ze_4, bo_4, es_4, u_9, ag_9, sz_9, by_9, ze_9, es_9, u_22, ag_22, sz_22, by_22, ze_22, es_22]; done) | (simp only [List.append_assoc, List.cons_append, List.nil_append, pre_n, pre_c, pre_a, pre_g, pre_r]; done) | (simp only [List.length_set]; done) | (simp only [List.length_set]; omega) | assumption | decide +kernel | fail) only [↓RP, RQ, isConstA, Nat.reduceEqDiff, Nat.reduceLT, Nat.reduceAdd, Int.reduceNeg, Int.reduceLT, Int.reduceLE, Int.reduceToNat, Int.reduceEq, ↓reduceIte, ite_true, ite_false, Option.toList, Nat.reduceMul, Nat.reduceSub, Nat.reduceLeDiff, ne_eq, eq_self, u_3, ag_3, sz_3, by_3, ze_3, es_3, u_4, ag_4, sz_4, by_4, ze_4, bo_4, es_4, u_9, ag_9, sz_9, by_9, ze_9, es_9, u_22, ag_22, sz_22, by_22, ze_22, es_22, ↓AW_loop]
  refine LW_rule (fun n fr h' => ∃ (i : Nat), i ≤ R.length ∧ n = R.length - i ∧ fget fr 13 = .int .i64 i ∧ fget fr 12 = .int .i64 R.length ∧ fget fr 0 = .slice (slA la) R.length R.length ∧ fget fr 1 = .slice (slA lb) R.length R.length ∧ h' = h) ?_ R.length _ _ ⟨0, by omega, rfl, ?_⟩
  · rintro n fr h' ⟨i, hi, hn, f13, f12, f0, f1, rfl⟩
    by_cases hlt : i < R.length
    · have hlt' : (i : Int) < R.length := by omega
      have hc : (R.map strV)[i]? = some (.string (str (rd R i))) := by
        rw [List.getElem?_map, List.getElem?_eq_getElem hlt]
        unfold rd; rw [List.getElem?_eq_getElem hlt]; rfl
      rcases oa with ⟨_, h0⟩ | ⟨p, rfl, hp⟩
      · have := congrArg List.length h0; rw [List.length_map] at this; simp at this; rw [this] at hlt; simp at hlt
      · rcases ob with ⟨_, h0⟩ | ⟨q, rfl, hq⟩
        · have := congrArg List.length h0; rw [List.length_map] at this; simp at this; rw [this] at hlt; simp at hlt
        · simp only [slA, Option.map_some] at f0 f1
          simp -dsimp -implicitDefEqProofs (disch := first | omega | (simp only [stT, u_3, ag_3, sz_3, by_3, ze_3, es_3, u_4, ag_4, sz_4, by_4, ze_4, bo_4, es_4, u_9, ag_9, sz_9, by_9, ze_9, es_9, u_22, ag_22, sz_22, by_22, ze_22, es_22]; done) | (simp only [List.append_assoc, List.cons_append, List.nil_append, pre_n, pre_c, pre_a, pre_g, pre_r]; done) | (simp only [List.length_set]; done) | (simp only [List.length_set]; omega) | assumption | decide +kernel | fail) only [↓RP, RQ, isConstA, Nat.reduceEqDiff, Nat.reduceLT, Nat.reduceAdd, Int.reduceNeg, Int.reduceLT, Int.reduceLE, Int.reduceToNat, Int.reduceEq, ↓reduceIte, ite_true, ite_false, Option.toList, Nat.reduceMul, Nat.reduceSub, Nat.reduceLeDiff, ne_eq, eq_self, u_3, ag_3, sz_3, by_3, ze_3, es_3, u_4, ag_4, sz_4, by_4, ze_4, bo_4, es_4, u_9, ag_9, sz_9, by_9, ze_9, es_9, u_22, ag_22, sz_22, by_22, ze_22, es_22, ↓AW_loop, f13, f12, f0, f1, hlt', hp, hq, hc]
          exact ⟨by decide +kernel, R.length - (i + 1), by omega, i + 1, by omega, rfl, rfl, rfl, rfl⟩
    · have hlt' : ¬ (i : Int) < R.length := by omega
      simp -dsimp -implicitDefEqProofs (disch := first | omega | (simp only [stT, u_3, ag_3, sz_3, by_3, ze_3, es_3, u_4, ag_4, sz_4, by_4, ze_4, bo_4, es_4, u_9, ag_9, sz_9, by_9, ze_9, es_9, u_22, ag_22, sz_22, by_22, ze_22, es_22]; done) | (simp only [List.append_assoc, List.cons_append, List.nil_append, pre_n, pre_c, pre_a, pre_g, pre_r]; done) | (simp only [List.length_set]; done) | (simp only [List.length_set]; omega) | assumption | decide +kernel | fail) only [↓RP, RQ, isConstA, Nat.reduceEqDiff, Nat.reduceLT, Nat.reduceAdd, Int.reduceNeg, Int.reduceLT, Int.reduceLE, Int.reduceToNat, Int.reduceEq, ↓reduceIte, ite_true, ite_false, Option.toList, Nat.reduceMul, Nat.reduceSub, Nat.reduceLeDiff, ne_eq, eq_self, u_3, ag_3, sz_3, by_3, ze_3, es_3, u_4, ag_4, sz_4, by_4, ze_4, bo_4, es_4, u_9, ag_9, sz_9, by_9, ze_9, es_9, u_22, ag_22, sz_22, by_22, ze_22, es_22, ↓AW_loop, f13, f12, hlt']
      exact Ext.refl _
  · simp -dsimp -implicitDefEqProofs (disch := first | omega | (simp only [stT, u_3, ag_3, sz_3, by_3, ze_3, es_3, u_4, ag_4, sz_4, by_4, ze_4, bo_4, es_4, u_9, ag_9, sz_9, by_9, ze_9, es_9, u_22, ag_22, sz_22, by_22, ze_22, es_22]; done) | (simp only [List.append_assoc, List.cons_append, List.nil_append, pre_n, pre_c, pre_a, pre_g, pre_r]; done) | (simp only [List.length_set]; done) | (simp only [List.length_set]; omega) | assumption | decide +kernel | fail) only [↓RP, RQ, isConstA, Nat.reduceEqDiff, Nat.reduceLT, Nat.reduceAdd, Int.reduceNeg, Int.reduceLT, Int.reduceLE, Int.reduceToNat, Int.reduceEq, ↓reduceIte, ite_true, ite_false, Option.toList, Nat.reduceMul, Nat.reduceSub, Nat.reduceLeDiff, ne_eq, eq_self, u_3, ag_3, sz_3, by_3, ze_3, es_3, u_4, ag_4, sz_4, by_4, ze_4, bo_4, es_4, u_9, ag_9, sz_9, by_9, ze_9, es_9, u_22, ag_22, sz_22, by_22, ze_22, es_22, ↓AW_loop]
theorem lastS_lt (m : MuxS) : ∀ (l : List Strm) (acc n : Nat), acc < n → (∀ s, s ∈ l → s.id < n) → l.foldl (fun a s => if ownS m s.id = true then a else s.id) acc < n
  | [], acc, n, h, _ => h
  | x :: l, acc, n, h, hs => by
    rw [List.foldl_cons]
    refine lastS_lt m l _ n ?_ fun s hs2 => hs s (by simp [hs2])
    split
    · exact h
    · exact hs x (by simp)
theorem ids_lt {ss : List Strm} (h : Ids ss) : ∀ s, s ∈ ss → s.id < 2 * ss.length + 1 := by
  intro s hs
  obtain ⟨i, hi⟩ := List.getElem?_of_mem hs
  have h1 := h i s hi
  have h2 := (List.getElem?_eq_some_iff.1 hi).1
  omega
theorem open_ok {w : Nat} {B : List Strm} (hB : Ids B) (hl : B.length < 16) {head : List UInt8} (hh : head.length ≤ 512) : stepL false w B ⟨2, 2 * B.length + 1, head⟩ = some (B ++ [newStrm (mk false w []) (2 * B.length + 1) head]) := by
  refine stepL_iff.2 (.inl ⟨rfl, ?_, rfl⟩)
  unfold openedE
  have e0 : (mk false w B).streams = B := rfl
  rw [e0, if_neg, if_neg]
  · have : countS (mk false w B) false B ≤ B.length := by unfold countS; exact List.length_filter_le _ _
    omega
  · rintro (h | h | h | h)
    · simp at h
    · unfold ownS at h
      have : (2 * B.length + 1) % 2 = 1 := by omega
      simp [mk, this] at h
    · have := lastS_lt (mk false w B) B 0 (2 * B.length + 1) (by omega) (ids_lt hB)
      unfold lastS at h
      simp only at h
      omega
    · simp only at h; omega
/-- The state behind an opening and a writing. -/
def openW (a : MuxS) (head text : List UInt8) (e : Bool) : MuxS := { openS a head with streams := a.streams ++ [{ newStrm a a.next head with out := text, ends := e }] }
theorem J.openW {w : Nat} {T : List Pl} {a b : MuxS} {F : List Fr} {B : List Strm} (j : J w T [] [] [] a b F B []) (hT : T.length < 16) (hn : a.next = 2 * T.length + 1) (head text : List UInt8) (e : Bool) (hh : head.length ≤ 512) (ht : text.length ≤ 4096) :
    J w (T ++ [⟨text, head, e, false⟩]) [] [] [] (openW a head text e) b (F ++ [⟨2, a.next, head⟩]) (B ++ [newStrm (Go.Abs.mk false w []) a.next head]) [] := by
  have hnl := j.n
  have hBl := j.lenB
  refine { j with n := ?_, n16 := ?_, tr := ?_, ids := ?_, wireF := ?_, okF := ?_, appF := ?_, lenB := ?_, rel := ?_, okG := fun f hf => by simp at hf }
  · simp only [Go.Abs.openW, List.length_append, List.length_singleton]; omega
  · simp only [List.length_append, List.length_singleton]; omega
  · intro t hm
    rcases List.mem_append.1 hm with hm | hm
    · exact j.tr t hm
    · rw [List.mem_singleton] at hm; subst hm; exact ⟨fun h => (by cases h), ht⟩
  · intro i s hs
    simp only [Go.Abs.openW] at hs
    by_cases hi : i < a.streams.length
    · rw [List.getElem?_append_left hi] at hs; exact j.ids i s hs
    · have hl := (List.getElem?_eq_some_iff.1 hs).1
      rw [List.length_append, List.length_singleton] at hl
      have hi2 : i = a.streams.length := by omega
      subst hi2
      rw [List.getElem?_append_right (Nat.le_refl _), Nat.sub_self] at hs
      cases hs
      simp only [newStrm]; omega
  · have := j.wireF
    simp only [Go.Abs.openW, openS]
    rw [encF_app, ← this, encF_cons, encF_nil]
    simp only [Fr.enc, List.append_assoc, List.append_nil]
  · intro f hf
    rcases List.mem_append.1 hf with hf | hf
    · exact j.okF f hf
    · rw [List.mem_singleton] at hf; subst hf
      exact ⟨(by decide : (2 : Nat) < 256), by simp only; omega, hh⟩
  · refine appL_app F _ b.streams B _ j.appF ?_
    rw [hn, ← hBl, appL, open_ok j.idsB (by omega) hh]
    rfl
  · simp only [List.length_append, List.length_singleton]; omega
  · intro i sa sb t h1 h2 h3
    simp only [Go.Abs.openW] at h1
    by_cases hi : i < T.length
    · rw [List.getElem?_append_left (by omega)] at h1 h2 h3
      exact j.rel i sa sb t h1 h2 h3
    · have hl := (List.getElem?_eq_some_iff.1 h3).1
      rw [List.length_append, List.length_singleton] at hl
      have hi2 : i = T.length := by omega
      subst hi2
      rw [List.getElem?_append_right (by omega), hnl, Nat.sub_self] at h1
      rw [List.getElem?_append_right (by omega), hBl, Nat.sub_self] at h2
      rw [List.getElem?_append_right (by omega), Nat.sub_self] at h3
      cases h1; cases h2; cases h3
      have haw := j.aw
      exact ⟨rfl, rfl, rfl, rfl, rfl, rfl, by simp only [newStrm, gsum_nil, haw]; rfl, by simp [newStrm, Go.Abs.mk], rfl, fun h => (by cases h), rfl, rfl, rfl, rfl, by simp only [newStrm, haw]; exact Nat.le_refl _⟩
theorem J.new {w : Nat} (h1 : 1 ≤ w) (h2 : w ≤ 256) : J w [] [] [] [] (newM true w) (newM false w) [] [] [] := by
  refine ⟨rfl, rfl, rfl, rfl, rfl, rfl, h1, h2, rfl, by simp, fun t h => by simp at h, fun i s h => by simp [newM] at h, rfl, fun f h => by simp at h, rfl, rfl, fun f h => by simp at h, rfl, fun i sa sb t h => by simp [newM] at h, fun s h => by simp [newM] at h, by simp [newM], by simp [newM], by simp [newM]⟩
/-! ### the ends of MuxBack -/
def text120 (b : List UInt8) : List UInt8 := b.take (min b.length 120)
def head3 (s : List UInt8) : List UInt8 := s.take (min s.length 3)
def planK (b : List UInt8) : Pl := ⟨text120 b, head3 (text120 b), true, false⟩
def stepK (m : MuxS) (b : List UInt8) : MuxS := openW m (head3 (text120 b)) (text120 b) true
structure KI (w : Nat) (l : List (List UInt8)) (m : MuxS) : Prop where
  j : ∃ F B, J w (l.map planK) [] [] [] m (newM false w) F B []
  nx : m.next = 2 * l.length + 1
  rd : m.ready = []
  pa : pA m ≤ 733 * l.length
  len : m.streams.length = l.length
  ct : m.control.length ≤ 8 * l.length
theorem text120_len (b : List UInt8) : (text120 b).length ≤ 120 := by unfold text120; rw [List.length_take]; omega
theorem head3_len (b : List UInt8) : (head3 b).length ≤ 3 := by unfold head3; rw [List.length_take]; omega
theorem KI.step {w : Nat} {l : List (List UInt8)} {m : MuxS} (k : KI w l m) (hl : l.length < 16) (b : List UInt8) : KI w (l ++ [b]) (stepK m b) := by
  obtain ⟨F, B, j⟩ := k.j
  have h1 := text120_len b
  have h2 := head3_len (text120 b)
  have hk := k.pa
  have hc := k.ct
  have hkl := k.len
  have jj := j.openW (by rw [List.length_map]; exact hl) (by rw [List.length_map]; exact k.nx) (head3 (text120 b)) (text120 b) true (by omega) (by omega)
  refine ⟨⟨_, _, by rw [List.map_append]; exact jj⟩, ?_, k.rd, ?_, ?_, ?_⟩
  · have := k.nx
    simp only [stepK, openW, openS, List.length_append, List.length_singleton]; omega
  · unfold pA at hk ⊢
    simp only [stepK, openW, openS, List.length_append, frameS_len, List.map_append, List.map_cons, List.map_nil, List.sum_append, List.sum_cons, List.sum_nil, List.length_singleton, cA, newStrm]
    simp only [Bool.false_eq_true, or_self, if_false]
    omega
  · simp only [stepK, openW, List.length_append, List.length_singleton]; omega
  · simp only [stepK, openW, openS, List.length_append, frameS_len, List.length_singleton]; omega
theorem KI.new {w : Nat} (h1 : 1 ≤ w) (h2 : w ≤ 256) : KI w [] (newM true w) := ⟨⟨_, _, J.new h1 h2⟩, rfl, rfl, by simp [pA, newM], rfl, by simp [newM]⟩
theorem left_le (T : List Pl) (c : Nat) (h : ∀ t, t ∈ T → t.text.length ≤ c) : left T [] ≤ c * T.length := by
  unfold left
  have key : ∀ n, n ≤ T.length → ((List.range n).map fun i => (txt T i).length - (rd [] i).length).sum ≤ c * n := by
    intro n
    induction n with
    | zero => intro _; simp
    | succ n ih =>
      intro hn
      rw [List.range_succ, List.map_append, List.sum_append]
      have := ih (by omega)
      have h2 : (txt T n).length ≤ c := by
        unfold txt
        rw [List.getElem?_eq_getElem (by omega)]
        exact h _ (List.getElem_mem _)
      simp only [List.map_cons, List.map_nil, List.sum_cons, List.sum_nil]
      rw [Nat.mul_succ]
      omega
  exact key _ (Nat.le_refl _)
theorem KI.phi {w : Nat} {l : List (List UInt8)} {m : MuxS} (k : KI w l m) (hl : l.length ≤ 4) : Phi (l.map planK) [] m (newM false w) + 5 ≤ 6300 := by
  have h1 := left_le (l.map planK) 120 (fun t ht => by
    obtain ⟨b, _, rfl⟩ := List.mem_map.1 ht
    exact text120_len b)
  rw [List.length_map] at h1
  have h2 := k.pa
  unfold Phi
  simp only [newM, List.length_nil]
  omega
end Go.Abs
/- Mx8: the law MuxPieces: its walk. Conditions: none. -/
set_option maxRecDepth 100000
set_option linter.unusedSimpArgs false
set_option linter.unusedVariables false
namespace Go.Abs
open Go.Proofs
theorem SlA.slice0 {α : Type} {f : α → List Value} {sz : Nat} {ro : Bool} {h : AHeap} {a : Option Addr} {l : List α} {P : Program} (s : SlA f sz ro h a l) {t e : TypeId} (hu : P.underlying t = some (.slice e)) (hs : sizeA P e = some sz) {m : Nat} (hm : a = none → m = 0) {lo hi : Option Value} {K : Value → Prop} :
    someP (sliceA P t (.slice a l.length m) lo hi h) K = someP (boundsA l.length lo hi) fun p => K (.slice (subA a p.1 sz) (p.2 - p.1) (p.2 - p.1)) := by
  have := s.slice hu hs hm (lo := lo) (hi := hi) (K := K) []
  rwa [List.append_nil] at this
theorem SlA.take {α : Type} {f : α → List Value} {sz : Nat} {ro : Bool} {h : AHeap} {a : Option Addr} {l : List α} (s : SlA f sz ro h a l) (hf : ∀ x, (f x).length = sz) (n : Nat) (hn : n ≤ l.length) : SlA f sz ro h (subA a 0 sz) (l.take n) := by
  have := s.sub hf (Nat.zero_le n) hn
  rwa [List.drop_zero, Nat.sub_zero] at this
theorem finM_eq {w : Nat} {m : MuxS} {j : Nat} (v : PInv w m j) (x : List UInt8) : finishM (writeM (openS m [104]) j (newStrm m m.next [104]) (textP x)) j { newStrm m m.next [104] with out := (newStrm m m.next [104]).out ++ (textP x).take (min (textP x).length (4096 - (newStrm m m.next [104]).out.length)) } = stepP m x := by
  have h1 := textP_len x
  have h2 : (textP x).take (min (textP x).length 4096) = textP x := List.take_of_length_le (by omega)
  simp only [finishM, writeM, openS, stepP, strP, newStrm, set_last v, List.length_nil, Nat.sub_zero, List.nil_append, h2]
theorem buildP_take {w : Nat} {l : List (List UInt8)} {j : Nat} {x : List UInt8} (hx : l[j]? = some x) : buildP w (l.take (j + 1)) = stepP (buildP w (l.take j)) x := by
  rw [List.take_add_one, hx]
  unfold buildP
  rw [List.foldl_append]
  rfl
def DoneP (M : MuxS) (o : List UInt8) : Prop := ∃ N, 2000 ≤ N ∧ o = (outB N M).1
theorem pieces_w (z : Int) (lb : List (List UInt8)) (ls : List Int) {ab ai : Option Addr} {mb mi : Nat} {h0 : AHeap} (hsb : SlA strE 1 true h0 ab lb) (hmb : ab = none → mb = 0) (hlb : lb.length < 2 ^ 50) (hsi : SlA intE 1 true h0 ai ls) (hls : ls.length < 2 ^ 50)
    (hok : ∀ x, x ∈ lb → x.length < 2 ^ 50) : FW cx 3 [.int .i64 z, .slice ab lb.length mb, .slice ai ls.length mi] h0 fun v _ => v = .bool true := by
  have hmin : foldA min2A (Value.int .i64 (lb.length : Int)) [.int .i64 4] = some (.int .i64 ((min lb.length 4 : Nat) : Int)) := by
    simp only [foldA, min2A]; congr 2; split <;> omega
  refine FW_f Try.func3 rfl (by decide +kernel) ?_
  obtain ⟨w, hw, hw1, hw2⟩ : ∃ w : Nat, max 1 (min z 256) = (w : Int) ∧ 1 ≤ w ∧ w ≤ 256 := ⟨(max 1 (min z 256)).toNat, by omega, by omega, by omega⟩
  simp -dsimp -implicitDefEqProofs (disch := first | omega | (simp only [stT, u_3, ag_3, sz_3, by_3, ze_3, es_3, u_4, ag_4, sz_4, by_4, ze_4, bo_4, es_4, u_9, ag_9, sz_9, by_9, ze_9, es_9, u_22, ag_22, sz_22, by_22, ze_22, es_22, u_23, ag_23, sz_23, by_23, ze_23, es_23, u_25, ag_25, sz_25, by_25, ze_25, es_25, u_26, ag_26, sz_26, by_26, ze_26, es_26, u_27, ag_27, sz_27, by_27, ze_27, es_27]; done) | (simp only [List.append_assoc, List.cons_append, List.nil_append, pre_n, pre_c, pre_a, pre_g, pre_r]; done) | (simp only [List.length_set]; done) | (simp only [List.length_set]; omega) | assumption | decide +kernel | fail) only [↓RP, RQ, isConstA, Nat.reduceEqDiff, Nat.reduceLT, Nat.reduceAdd, Int.reduceNeg, Int.reduceLT, Int.reduceLE, Int.reduceToNat, Int.reduceEq, ↓reduceIte, ite_true, ite_false, Option.toList, Nat.reduceMul, Nat.reduceSub, Nat.reduceLeDiff, ne_eq, eq_self, u_3, ag_3, sz_3, by_3, ze_3, es_3, u_4, ag_4, sz_4, by_4, ze_4, bo_4, es_4, u_9, ag_9, sz_9, by_9, ze_9, es_9, u_22, ag_22, sz_22, by_22, ze_22, es_22, u_23, ag_23, sz_23, by_23, ze_23, es_23, u_25, ag_25, sz_25, by_25, ze_25, es_25, u_26, ag_26, sz_26, by_26, ze_26, es_26, u_27, ag_27, sz_27, by_27, ze_27, es_27, ↓AW_loop, idx_arr u_25]
  refine (within_q z 1 256 _).use' fun g => ?_
  rw [hw]
  clear hw
  simp -dsimp -implicitDefEqProofs (disch := first | omega | (simp only [stT, u_3, ag_3, sz_3, by_3, ze_3, es_3, u_4, ag_4, sz_4, by_4, ze_4, bo_4, es_4, u_9, ag_9, sz_9, by_9, ze_9, es_9, u_22, ag_22, sz_22, by_22, ze_22, es_22, u_23, ag_23, sz_23, by_23, ze_23, es_23, u_25, ag_25, sz_25, by_25, ze_25, es_25, u_26, ag_26, sz_26, by_26, ze_26, es_26, u_27, ag_27, sz_27, by_27, ze_27, es_27]; done) | (simp only [List.append_assoc, List.cons_append, List.nil_append, pre_n, pre_c, pre_a, pre_g, pre_r]; done) | (simp only [List.length_set]; done) | (simp only [List.length_set]; omega) | assumption | decide +kernel | fail) only [↓RP, RQ, isConstA, Nat.reduceEqDiff, Nat.reduceLT, Nat.reduceAdd, Int.reduceNeg, Int.reduceLT, Int.reduceLE, Int.reduceToNat, Int.reduceEq, ↓reduceIte, ite_true, ite_false, Option.toList, Nat.reduceMul, Nat.reduceSub, Nat.reduceLeDiff, ne_eq, eq_self, u_3, ag_3, sz_3, by_3, ze_3, es_3, u_4, ag_4, sz_4, by_4, ze_4, bo_4, es_4, u_9, ag_9, sz_9, by_9, ze_9, es_9, u_22, ag_22, sz_22, by_22, ze_22, es_22, u_23, ag_23, sz_23, by_23, ze_23, es_23, u_25, ag_25, sz_25, by_25, ze_25, es_25, u_26, ag_26, sz_26, by_26, ze_26, es_26, u_27, ag_27, sz_27, by_27, ze_27, es_27, ↓AW_loop, idx_arr u_25]
  have hul : Upd h0 (h0 ++ (g ++ [some (.cells ⟨[.string (str []), .string (str [])], 1, false⟩)])) [] [] := Upd.app h0 _ _
  obtain ⟨M, hM⟩ : ∃ M, buildP w (lb.take (min lb.length 4)) = M := ⟨_, rfl⟩
  have inv := buildP_inv w (lb.take (min lb.length 4))
  have hml : (lb.take (min lb.length 4)).length = min lb.length 4 := by rw [List.length_take]; omega
  rw [hM, hml] at inv
  obtain ⟨ar, har⟩ : ∃ ar, h0.length + g.length = ar := ⟨_, rfl⟩
  refine LW_rule (fun n fr h' => ∃ (k : Nat) (o0 o1 : List UInt8), k ≤ 2 ∧ n = 2 - k ∧ fget fr 18 = .int .i64 k ∧ fget fr 0 = .int .i64 w ∧ fget fr 1 = .slice ab lb.length mb ∧ fget fr 2 = .slice ai ls.length mi ∧ fget fr 7 = .pointer (some ⟨ar, 0, none⟩) ∧
      blkA h' ar = some ⟨[.string (str o0), .string (str o1)], 1, false⟩ ∧ Upd h0 h' [] [] ∧ (1 ≤ k → o0 = (outB 4096 M).1) ∧ (k ≤ 1 → o1 = []) ∧ (2 ≤ k → DoneP M o1)) ?_ 2 _ _ ⟨0, [], [], by omega, rfl, ?_⟩
  · rintro n fr hk ⟨k, o0, o1, hk2, hn, f18, f0, f1, f2, f7, harr, hu0, ho0, ho1, hoN⟩
    have harl : ar < hk.length := blkA_lt harr
    by_cases hlt : k < 2
    · have hlt' : (k : Int) < 2 := by omega
      simp -dsimp -implicitDefEqProofs (disch := first | omega | (simp only [stT, u_3, ag_3, sz_3, by_3, ze_3, es_3, u_4, ag_4, sz_4, by_4, ze_4, bo_4, es_4, u_9, ag_9, sz_9, by_9, ze_9, es_9, u_22, ag_22, sz_22, by_22, ze_22, es_22, u_23, ag_23, sz_23, by_23, ze_23, es_23, u_25, ag_25, sz_25, by_25, ze_25, es_25, u_26, ag_26, sz_26, by_26, ze_26, es_26, u_27, ag_27, sz_27, by_27, ze_27, es_27]; done) | (simp only [List.append_assoc, List.cons_append, List.nil_append, pre_n, pre_c, pre_a, pre_g, pre_r]; done) | (simp only [List.length_set]; done) | (simp only [List.length_set]; omega) | assumption | decide +kernel | fail) only [↓RP, RQ, isConstA, Nat.reduceEqDiff, Nat.reduceLT, Nat.reduceAdd, Int.reduceNeg, Int.reduceLT, Int.reduceLE, Int.reduceToNat, Int.reduceEq, ↓reduceIte, ite_true, ite_false, Option.toList, Nat.reduceMul, Nat.reduceSub, Nat.reduceLeDiff, ne_eq, eq_self, u_3, ag_3, sz_3, by_3, ze_3, es_3, u_4, ag_4, sz_4, by_4, ze_4, bo_4, es_4, u_9, ag_9, sz_9, by_9, ze_9, es_9, u_22, ag_22, sz_22, by_22, ze_22, es_22, u_23, ag_23, sz_23, by_23, ze_23, es_23, u_25, ag_25, sz_25, by_25, ze_25, es_25, u_26, ag_26, sz_26, by_26, ze_26, es_26, u_27, ag_27, sz_27, by_27, ze_27, es_27, ↓AW_loop, idx_arr u_25, f18, hlt', f0]
      refine FW.mono (new_q true w hw1 hw2 hk) (fun v h1 hq => ?_)
      obtain ⟨rfl, a1, e1⟩ := hq
      have u1 : Upd hk h1 [] (foot hk.length none []) := by rw [e1]; exact (Upd.app hk _ []).to (by simp [foot])
      clear e1
      generalize hp : hk.length = p at a1 u1
      have hs1 := hsb.mono (hu0.trans u1).toExt
      simp -dsimp -implicitDefEqProofs (disch := first | omega | (simp only [stT, u_3, ag_3, sz_3, by_3, ze_3, es_3, u_4, ag_4, sz_4, by_4, ze_4, bo_4, es_4, u_9, ag_9, sz_9, by_9, ze_9, es_9, u_22, ag_22, sz_22, by_22, ze_22, es_22, u_23, ag_23, sz_23, by_23, ze_23, es_23, u_25, ag_25, sz_25, by_25, ze_25, es_25, u_26, ag_26, sz_26, by_26, ze_26, es_26, u_27, ag_27, sz_27, by_27, ze_27, es_27]; done) | (simp only [List.append_assoc, List.cons_append, List.nil_append, pre_n, pre_c, pre_a, pre_g, pre_r]; done) | (simp only [List.length_set]; done) | (simp only [List.length_set]; omega) | assumption | decide +kernel | fail) only [↓RP, RQ, isConstA, Nat.reduceEqDiff, Nat.reduceLT, Nat.reduceAdd, Int.reduceNeg, Int.reduceLT, Int.reduceLE, Int.reduceToNat, Int.reduceEq, ↓reduceIte, ite_true, ite_false, Option.toList, Nat.reduceMul, Nat.reduceSub, Nat.reduceLeDiff, ne_eq, eq_self, u_3, ag_3, sz_3, by_3, ze_3, es_3, u_4, ag_4, sz_4, by_4, ze_4, bo_4, es_4, u_9, ag_9, sz_9, by_9, ze_9, es_9, u_22, ag_22, sz_22, by_22, ze_22, es_22, u_23, ag_23, sz_23, by_23, ze_23, es_23, u_25, ag_25, sz_25, by_25, ze_25, es_25, u_26, ag_26, sz_26, by_26, ze_26, es_26, u_27, ag_27, sz_27, by_27, ze_27, es_27, ↓AW_loop, idx_arr u_25, ptrC, f1, hs1.slice0 u_22 sz_9 hmb, hmin]
      refine ⟨by omega, ?_⟩
      have hs2 := hsb.take (fun _ => rfl) (min lb.length 4) (by omega)
      obtain ⟨lt, hlt2⟩ : ∃ lt, lb.take (min lb.length 4) = lt := ⟨_, rfl⟩
      obtain ⟨nb, hnb⟩ : ∃ nb, min lb.length 4 = nb := ⟨_, rfl⟩
      have hokt : ∀ x, x ∈ lt → x.length < 2 ^ 50 := fun x hx => hok x (by rw [← hlt2] at hx; exact List.mem_of_mem_take hx)
      rw [hlt2] at hM hml hs2
      rw [hnb] at hml inv
      simp only [hnb]
      have hnb4 : nb ≤ 4 := by omega
      clear hmin
      generalize subA ab 0 1 = as2 at *
      refine LW_rule (fun n2 fr h' => ∃ (j : Nat), j ≤ nb ∧ n2 = nb - j ∧ fget fr 38 = .int .i64 j ∧ fget fr 37 = .int .i64 nb ∧ fget fr 36 = .slice as2 nb nb ∧ fget fr 9 = ptrC p ∧
          fget fr 18 = .int .i64 k ∧ fget fr 8 = .int .i64 k ∧ fget fr 0 = .int .i64 w ∧ fget fr 1 = .slice ab lb.length mb ∧ fget fr 2 = .slice ai ls.length mi ∧ fget fr 7 = .pointer (some ⟨ar, 0, none⟩) ∧
          ∃ sb ids, MuxAt h' p sb ids (buildP w (lt.take j)) ∧ Upd h1 h' (foot p none []) (foot p sb ids)) ?_ nb _ _ ⟨0, by omega, rfl, ?_⟩
      · rintro n2 fr h' ⟨j, hj, hn2, f38, f37, f36, f9, f18, f8, f0, f1, f2, f7, sb, ids, am, um⟩
        by_cases hjn : j < nb
        · have hjn' : (j : Int) < nb := by omega
          obtain ⟨x, hx⟩ : ∃ x, lt[j]? = some x := ⟨_, List.getElem?_eq_getElem (by omega)⟩
          have hxl := hokt x (List.mem_of_getElem? hx)
          have hs3 := hs2.mono (hu0.trans (u1.trans um)).toExt
          obtain ⟨b, o, cells, rfl, hb, hbX, hle, hch⟩ := hs3.get1 (g := fun z => .string (str z)) (fun _ => rfl) hx
          have iv := buildP_inv w (lt.take j)
          have hlj : (lt.take j).length = j := by rw [List.length_take]; omega
          rw [hlj] at iv
          obtain ⟨m, hm⟩ : ∃ m, buildP w (lt.take j) = m := ⟨_, rfl⟩
          rw [hm] at iv am
          simp -dsimp -implicitDefEqProofs (disch := first | omega | (simp only [stT, u_3, ag_3, sz_3, by_3, ze_3, es_3, u_4, ag_4, sz_4, by_4, ze_4, bo_4, es_4, u_9, ag_9, sz_9, by_9, ze_9, es_9, u_22, ag_22, sz_22, by_22, ze_22, es_22, u_23, ag_23, sz_23, by_23, ze_23, es_23, u_25, ag_25, sz_25, by_25, ze_25, es_25, u_26, ag_26, sz_26, by_26, ze_26, es_26, u_27, ag_27, sz_27, by_27, ze_27, es_27]; done) | (simp only [List.append_assoc, List.cons_append, List.nil_append, pre_n, pre_c, pre_a, pre_g, pre_r]; done) | (simp only [List.length_set]; done) | (simp only [List.length_set]; omega) | assumption | decide +kernel | fail) only [↓RP, RQ, isConstA, Nat.reduceEqDiff, Nat.reduceLT, Nat.reduceAdd, Int.reduceNeg, Int.reduceLT, Int.reduceLE, Int.reduceToNat, Int.reduceEq, ↓reduceIte, ite_true, ite_false, Option.toList, Nat.reduceMul, Nat.reduceSub, Nat.reduceLeDiff, ne_eq, eq_self, u_3, ag_3, sz_3, by_3, ze_3, es_3, u_4, ag_4, sz_4, by_4, ze_4, bo_4, es_4, u_9, ag_9, sz_9, by_9, ze_9, es_9, u_22, ag_22, sz_22, by_22, ze_22, es_22, u_23, ag_23, sz_23, by_23, ze_23, es_23, u_25, ag_25, sz_25, by_25, ze_25, es_25, u_26, ag_26, sz_26, by_26, ze_26, es_26, u_27, ag_27, sz_27, by_27, ze_27, es_27, ↓AW_loop, idx_arr u_25, f38, f37, f36, f9, hb, hle, hch, hjn']
          have hcl := countS_le m true m.streams
          have hil := am.len
          have hvl := iv.len
          have hvn := iv.nx
          have hvc := iv.ct
          refine FW.mono (open_q m [104] am iv.br (by decide) (by omega) (by omega) (by omega) (by omega) (fun s hs => (iv.str s hs).1)) (fun v h2 hq => ?_)
          obtain ⟨rfl, sb2, ids2, a2, u2⟩ := hq
          have hi2 : ids2.length = j + 1 := by rw [a2.len]; simp [openS, hvl]
          have hminx : foldA min2A (Value.int .i64 (x.length : Int)) [.int .i64 100] = some (.int .i64 ((min x.length 100 : Nat) : Int)) := by
            simp only [foldA, min2A]; congr 2; split <;> omega
          simp -dsimp -implicitDefEqProofs (disch := first | omega | (simp only [stT, u_3, ag_3, sz_3, by_3, ze_3, es_3, u_4, ag_4, sz_4, by_4, ze_4, bo_4, es_4, u_9, ag_9, sz_9, by_9, ze_9, es_9, u_22, ag_22, sz_22, by_22, ze_22, es_22, u_23, ag_23, sz_23, by_23, ze_23, es_23, u_25, ag_25, sz_25, by_25, ze_25, es_25, u_26, ag_26, sz_26, by_26, ze_26, es_26, u_27, ag_27, sz_27, by_27, ze_27, es_27]; done) | (simp only [List.append_assoc, List.cons_append, List.nil_append, pre_n, pre_c, pre_a, pre_g, pre_r]; done) | (simp only [List.length_set]; done) | (simp only [List.length_set]; omega) | assumption | decide +kernel | fail) only [↓RP, RQ, isConstA, Nat.reduceEqDiff, Nat.reduceLT, Nat.reduceAdd, Int.reduceNeg, Int.reduceLT, Int.reduceLE, Int.reduceToNat, Int.reduceEq, ↓reduceIte, ite_true, ite_false, Option.toList, Nat.reduceMul, Nat.reduceSub, Nat.reduceLeDiff, ne_eq, eq_self, u_3, ag_3, sz_3, by_3, ze_3, es_3, u_4, ag_4, sz_4, by_4, ze_4, bo_4, es_4, u_9, ag_9, sz_9, by_9, ze_9, es_9, u_22, ag_22, sz_22, by_22, ze_22, es_22, u_23, ag_23, sz_23, by_23, ze_23, es_23, u_25, ag_25, sz_25, by_25, ze_25, es_25, u_26, ag_26, sz_26, by_26, ze_26, es_26, u_27, ag_27, sz_27, by_27, ze_27, es_27, ↓AW_loop, idx_arr u_25, f38, f37, f36, f9, hminx]
          refine ⟨by omega, ?_⟩
          refine FW.mono (write_q (openS m [104]) m.next j (newStrm m m.next [104]) (textP x) a2 (by omega) iv.br (findS_last iv (newStrm m m.next [104]) rfl (openS m [104]) rfl) (get_last iv _) rfl rfl (by simp [newStrm]) (by have := textP_len x; omega)) (fun v h3 hq => ?_)
          obtain ⟨rfl, a3, u3⟩ := hq
          simp -dsimp -implicitDefEqProofs (disch := first | omega | (simp only [stT, u_3, ag_3, sz_3, by_3, ze_3, es_3, u_4, ag_4, sz_4, by_4, ze_4, bo_4, es_4, u_9, ag_9, sz_9, by_9, ze_9, es_9, u_22, ag_22, sz_22, by_22, ze_22, es_22, u_23, ag_23, sz_23, by_23, ze_23, es_23, u_25, ag_25, sz_25, by_25, ze_25, es_25, u_26, ag_26, sz_26, by_26, ze_26, es_26, u_27, ag_27, sz_27, by_27, ze_27, es_27]; done) | (simp only [List.append_assoc, List.cons_append, List.nil_append, pre_n, pre_c, pre_a, pre_g, pre_r]; done) | (simp only [List.length_set]; done) | (simp only [List.length_set]; omega) | assumption | decide +kernel | fail) only [↓RP, RQ, isConstA, Nat.reduceEqDiff, Nat.reduceLT, Nat.reduceAdd, Int.reduceNeg, Int.reduceLT, Int.reduceLE, Int.reduceToNat, Int.reduceEq, ↓reduceIte, ite_true, ite_false, Option.toList, Nat.reduceMul, Nat.reduceSub, Nat.reduceLeDiff, ne_eq, eq_self, u_3, ag_3, sz_3, by_3, ze_3, es_3, u_4, ag_4, sz_4, by_4, ze_4, bo_4, es_4, u_9, ag_9, sz_9, by_9, ze_9, es_9, u_22, ag_22, sz_22, by_22, ze_22, es_22, u_23, ag_23, sz_23, by_23, ze_23, es_23, u_25, ag_25, sz_25, by_25, ze_25, es_25, u_26, ag_26, sz_26, by_26, ze_26, es_26, u_27, ag_27, sz_27, by_27, ze_27, es_27, ↓AW_loop, idx_arr u_25, f38, f37, f36, f9]
          refine FW.mono (finish_q _ m.next j { newStrm m m.next [104] with out := (newStrm m m.next [104]).out ++ (textP x).take (min (textP x).length (4096 - (newStrm m m.next [104]).out.length)) } a3 (by omega) iv.br (findS_last iv _ rfl _ (set_last iv _ _)) (by rw [writeM, openS]; simp only; rw [set_last iv, get_last iv]) rfl rfl) (fun v h4 hq => ?_)
          obtain ⟨rfl, a4, u4⟩ := hq
          rw [finM_eq iv] at a4
          simp -dsimp -implicitDefEqProofs (disch := first | omega | (simp only [stT, u_3, ag_3, sz_3, by_3, ze_3, es_3, u_4, ag_4, sz_4, by_4, ze_4, bo_4, es_4, u_9, ag_9, sz_9, by_9, ze_9, es_9, u_22, ag_22, sz_22, by_22, ze_22, es_22, u_23, ag_23, sz_23, by_23, ze_23, es_23, u_25, ag_25, sz_25, by_25, ze_25, es_25, u_26, ag_26, sz_26, by_26, ze_26, es_26, u_27, ag_27, sz_27, by_27, ze_27, es_27]; done) | (simp only [List.append_assoc, List.cons_append, List.nil_append, pre_n, pre_c, pre_a, pre_g, pre_r]; done) | (simp only [List.length_set]; done) | (simp only [List.length_set]; omega) | assumption | decide +kernel | fail) only [↓RP, RQ, isConstA, Nat.reduceEqDiff, Nat.reduceLT, Nat.reduceAdd, Int.reduceNeg, Int.reduceLT, Int.reduceLE, Int.reduceToNat, Int.reduceEq, ↓reduceIte, ite_true, ite_false, Option.toList, Nat.reduceMul, Nat.reduceSub, Nat.reduceLeDiff, ne_eq, eq_self, u_3, ag_3, sz_3, by_3, ze_3, es_3, u_4, ag_4, sz_4, by_4, ze_4, bo_4, es_4, u_9, ag_9, sz_9, by_9, ze_9, es_9, u_22, ag_22, sz_22, by_22, ze_22, es_22, u_23, ag_23, sz_23, by_23, ze_23, es_23, u_25, ag_25, sz_25, by_25, ze_25, es_25, u_26, ag_26, sz_26, by_26, ze_26, es_26, u_27, ag_27, sz_27, by_27, ze_27, es_27, ↓AW_loop, idx_arr u_25, f38, f37, f36, f9]
          exact ⟨nb - (j + 1), by omega, j + 1, by omega, rfl, rfl, f18, f8, f0, f1, f2, f7, sb2, ids2, by rw [buildP_take hx, hm]; exact a4, ((um.trans u2).trans u3).trans u4⟩
        · have hjn' : ¬ (j : Int) < nb := by omega
          have hj2 : j = nb := by omega
          subst hj2
          rw [List.take_of_length_le (by omega), hM] at am
          have uk := u1.trans um
          have hfar : ar ∉ foot p sb ids := fun hq => by rcases uk.own ar hq with h | h; simp at h; omega
          have hil := am.len
          rw [inv.len] at hil
          have h0ar : h0.length ≤ ar := by omega
          by_cases hk0 : k = 0
          · have hk0' : (k : Int) = 0 := by omega
            simp -dsimp -implicitDefEqProofs (disch := first | omega | (simp only [stT, u_3, ag_3, sz_3, by_3, ze_3, es_3, u_4, ag_4, sz_4, by_4, ze_4, bo_4, es_4, u_9, ag_9, sz_9, by_9, ze_9, es_9, u_22, ag_22, sz_22, by_22, ze_22, es_22, u_23, ag_23, sz_23, by_23, ze_23, es_23, u_25, ag_25, sz_25, by_25, ze_25, es_25, u_26, ag_26, sz_26, by_26, ze_26, es_26, u_27, ag_27, sz_27, by_27, ze_27, es_27]; done) | (simp only [List.append_assoc, List.cons_append, List.nil_append, pre_n, pre_c, pre_a, pre_g, pre_r]; done) | (simp only [List.length_set]; done) | (simp only [List.length_set]; omega) | assumption | decide +kernel | fail) only [↓RP, RQ, isConstA, Nat.reduceEqDiff, Nat.reduceLT, Nat.reduceAdd, Int.reduceNeg, Int.reduceLT, Int.reduceLE, Int.reduceToNat, Int.reduceEq, ↓reduceIte, ite_true, ite_false, Option.toList, Nat.reduceMul, Nat.reduceSub, Nat.reduceLeDiff, ne_eq, eq_self, u_3, ag_3, sz_3, by_3, ze_3, es_3, u_4, ag_4, sz_4, by_4, ze_4, bo_4, es_4, u_9, ag_9, sz_9, by_9, ze_9, es_9, u_22, ag_22, sz_22, by_22, ze_22, es_22, u_23, ag_23, sz_23, by_23, ze_23, es_23, u_25, ag_25, sz_25, by_25, ze_25, es_25, u_26, ag_26, sz_26, by_26, ze_26, es_26, u_27, ag_27, sz_27, by_27, ze_27, es_27, ↓AW_loop, idx_arr u_25, f38, f37, hjn', f8, f18, f7, f2, f1, f0, f9, hk0']
            refine FW.mono (out_q M 4096 (by decide) am (by omega) (inv.mb hw2 hnb4)) (fun v h2 hq => ?_)
            obtain ⟨rfl, a2, u2⟩ := hq
            have uk2 := uk.trans u2
            have harr2 := uk2.blk (by simp) harr
            have harl2 := blkA_lt harr2
            simp -dsimp -implicitDefEqProofs (disch := first | omega | (simp only [stT, u_3, ag_3, sz_3, by_3, ze_3, es_3, u_4, ag_4, sz_4, by_4, ze_4, bo_4, es_4, u_9, ag_9, sz_9, by_9, ze_9, es_9, u_22, ag_22, sz_22, by_22, ze_22, es_22, u_23, ag_23, sz_23, by_23, ze_23, es_23, u_25, ag_25, sz_25, by_25, ze_25, es_25, u_26, ag_26, sz_26, by_26, ze_26, es_26, u_27, ag_27, sz_27, by_27, ze_27, es_27]; done) | (simp only [List.append_assoc, List.cons_append, List.nil_append, pre_n, pre_c, pre_a, pre_g, pre_r]; done) | (simp only [List.length_set]; done) | (simp only [List.length_set]; omega) | assumption | decide +kernel | fail) only [↓RP, RQ, isConstA, Nat.reduceEqDiff, Nat.reduceLT, Nat.reduceAdd, Int.reduceNeg, Int.reduceLT, Int.reduceLE, Int.reduceToNat, Int.reduceEq, ↓reduceIte, ite_true, ite_false, Option.toList, Nat.reduceMul, Nat.reduceSub, Nat.reduceLeDiff, ne_eq, eq_self, u_3, ag_3, sz_3, by_3, ze_3, es_3, u_4, ag_4, sz_4, by_4, ze_4, bo_4, es_4, u_9, ag_9, sz_9, by_9, ze_9, es_9, u_22, ag_22, sz_22, by_22, ze_22, es_22, u_23, ag_23, sz_23, by_23, ze_23, es_23, u_25, ag_25, sz_25, by_25, ze_25, es_25, u_26, ag_26, sz_26, by_26, ze_26, es_26, u_27, ag_27, sz_27, by_27, ze_27, es_27, ↓AW_loop, idx_arr u_25, f38, f37, f8, f18, f7, f2, f1, f0, f9, hk0', harr2]
            exact ⟨by decide, 1, by omega, 1, _, o1, by decide, rfl, rfl, rfl, ((hu0.trans uk2).setNew h0ar).to (by simp), fun _ => rfl, fun _ => ho1 (by omega), fun h => absurd h (by decide)⟩
          · have hk1' : (k : Int) = 1 := by omega
            simp -dsimp -implicitDefEqProofs (disch := first | omega | (simp only [stT, u_3, ag_3, sz_3, by_3, ze_3, es_3, u_4, ag_4, sz_4, by_4, ze_4, bo_4, es_4, u_9, ag_9, sz_9, by_9, ze_9, es_9, u_22, ag_22, sz_22, by_22, ze_22, es_22, u_23, ag_23, sz_23, by_23, ze_23, es_23, u_25, ag_25, sz_25, by_25, ze_25, es_25, u_26, ag_26, sz_26, by_26, ze_26, es_26, u_27, ag_27, sz_27, by_27, ze_27, es_27]; done) | (simp only [List.append_assoc, List.cons_append, List.nil_append, pre_n, pre_c, pre_a, pre_g, pre_r]; done) | (simp only [List.length_set]; done) | (simp only [List.length_set]; omega) | assumption | decide +kernel | fail) only [↓RP, RQ, isConstA, Nat.reduceEqDiff, Nat.reduceLT, Nat.reduceAdd, Int.reduceNeg, Int.reduceLT, Int.reduceLE, Int.reduceToNat, Int.reduceEq, ↓reduceIte, ite_true, ite_false, Option.toList, Nat.reduceMul, Nat.reduceSub, Nat.reduceLeDiff, ne_eq, eq_self, u_3, ag_3, sz_3, by_3, ze_3, es_3, u_4, ag_4, sz_4, by_4, ze_4, bo_4, es_4, u_9, ag_9, sz_9, by_9, ze_9, es_9, u_22, ag_22, sz_22, by_22, ze_22, es_22, u_23, ag_23, sz_23, by_23, ze_23, es_23, u_25, ag_25, sz_25, by_25, ze_25, es_25, u_26, ag_26, sz_26, by_26, ze_26, es_26, u_27, ag_27, sz_27, by_27, ze_27, es_27, ↓AW_loop, idx_arr u_25, f38, f37, hjn', f8, f18, f7, f2, f1, f0, f9, hk1']
            have harr1 := uk.blk (by simp) harr
            rw [ho1 (by omega)] at harr1
            refine LW_rule (fun n fr h3 => ∃ (i N : Nat), i ≤ 2000 ∧ n = 2000 - i ∧ fget fr 65 = .int .i64 i ∧ fget fr 9 = ptrC p ∧ fget fr 18 = .int .i64 1 ∧ fget fr 8 = .int .i64 1 ∧ fget fr 0 = .int .i64 w ∧ fget fr 1 = .slice ab lb.length mb ∧ fget fr 2 = .slice ai ls.length mi ∧ fget fr 7 = .pointer (some ⟨ar, 0, none⟩) ∧
                MuxAt h3 p sb ids (outB N M).2 ∧ blkA h3 ar = some ⟨[.string (str o0), .string (str (outB N M).1)], 1, false⟩ ∧ i ≤ N ∧ N ≤ 90 * i ∧ Upd h0 h3 [] []) ?_ 2000 _ _ ⟨0, 0, by omega, rfl, ?_⟩
            · rintro n3 fr h3 ⟨i, N, hi, hn3, f65, f9, f18, f8, f0, f1, f2, f7, a3, harr3, hiN, hN9, hu3⟩
              by_cases hin : i < 2000
              · have hin' : (i : Int) < 2000 := by omega
                have hsi3 := hsi.mono hu3.toExt
                simp -dsimp -implicitDefEqProofs (disch := first | omega | (simp only [stT, u_3, ag_3, sz_3, by_3, ze_3, es_3, u_4, ag_4, sz_4, by_4, ze_4, bo_4, es_4, u_9, ag_9, sz_9, by_9, ze_9, es_9, u_22, ag_22, sz_22, by_22, ze_22, es_22, u_23, ag_23, sz_23, by_23, ze_23, es_23, u_25, ag_25, sz_25, by_25, ze_25, es_25, u_26, ag_26, sz_26, by_26, ze_26, es_26, u_27, ag_27, sz_27, by_27, ze_27, es_27]; done) | (simp only [List.append_assoc, List.cons_append, List.nil_append, pre_n, pre_c, pre_a, pre_g, pre_r]; done) | (simp only [List.length_set]; done) | (simp only [List.length_set]; omega) | assumption | decide +kernel | fail) only [↓RP, RQ, isConstA, Nat.reduceEqDiff, Nat.reduceLT, Nat.reduceAdd, Int.reduceNeg, Int.reduceLT, Int.reduceLE, Int.reduceToNat, Int.reduceEq, ↓reduceIte, ite_true, ite_false, Option.toList, Nat.reduceMul, Nat.reduceSub, Nat.reduceLeDiff, ne_eq, eq_self, u_3, ag_3, sz_3, by_3, ze_3, es_3, u_4, ag_4, sz_4, by_4, ze_4, bo_4, es_4, u_9, ag_9, sz_9, by_9, ze_9, es_9, u_22, ag_22, sz_22, by_22, ze_22, es_22, u_23, ag_23, sz_23, by_23, ze_23, es_23, u_25, ag_25, sz_25, by_25, ze_25, es_25, u_26, ag_26, sz_26, by_26, ze_26, es_26, u_27, ag_27, sz_27, by_27, ze_27, es_27, ↓AW_loop, idx_arr u_25, f65, f9, f18, f8, f7, f2, hin', harr3]
                refine ⟨by decide +kernel, ?_⟩
                (repeat (refine And.intro (by omega) ?_))
                refine FW.mono (at_q ls i 20 (by omega) hsi3 hls) (fun v h4 hq => ?_)
                obtain ⟨rfl, e4⟩ := hq
                have harr4 := e4.blk harr3
                refine DQ_fx1 (t := 9) (u := 69) (v := .pointer (some ⟨ar, 1, none⟩)) (by kernel_rfl) (by simp -dsimp -implicitDefEqProofs (disch := first | omega | (simp only [stT, u_3, ag_3, sz_3, by_3, ze_3, es_3, u_4, ag_4, sz_4, by_4, ze_4, bo_4, es_4, u_9, ag_9, sz_9, by_9, ze_9, es_9, u_22, ag_22, sz_22, by_22, ze_22, es_22, u_23, ag_23, sz_23, by_23, ze_23, es_23, u_25, ag_25, sz_25, by_25, ze_25, es_25, u_26, ag_26, sz_26, by_26, ze_26, es_26, u_27, ag_27, sz_27, by_27, ze_27, es_27]; done) | (simp only [List.append_assoc, List.cons_append, List.nil_append, pre_n, pre_c, pre_a, pre_g, pre_r]; done) | (simp only [List.length_set]; done) | (simp only [List.length_set]; omega) | assumption | decide +kernel | fail) only [↓RP, RQ, isConstA, Nat.reduceEqDiff, Nat.reduceLT, Nat.reduceAdd, Int.reduceNeg, Int.reduceLT, Int.reduceLE, Int.reduceToNat, Int.reduceEq, ↓reduceIte, ite_true, ite_false, Option.toList, Nat.reduceMul, Nat.reduceSub, Nat.reduceLeDiff, ne_eq, eq_self, u_3, ag_3, sz_3, by_3, ze_3, es_3, u_4, ag_4, sz_4, by_4, ze_4, bo_4, es_4, u_9, ag_9, sz_9, by_9, ze_9, es_9, u_22, ag_22, sz_22, by_22, ze_22, es_22, u_23, ag_23, sz_23, by_23, ze_23, es_23, u_25, ag_25, sz_25, by_25, ze_25, es_25, u_26, ag_26, sz_26, by_26, ze_26, es_26, u_27, ag_27, sz_27, by_27, ze_27, es_27, ↓AW_loop, idx_arr u_25, f65, f9, f18, f8, f7, f2]) ?_ ?_
                · rw [loadA_eq, loadA_eq, harr3, harr4]
                · have hmx : foldA max2A (Value.int .i64 0) [.int .i64 (atS ls i 20)] = some (.int .i64 (((max 0 (atS ls i 20)).toNat : Nat) : Int)) := by
                    simp only [foldA, max2A]; congr 2; split <;> omega
                  generalize (max 0 (atS ls i 20)).toNat = c at hmx
                  have hrem : (c : Int).tmod 90 = ((c % 90 : Nat) : Int) := (Int.ofNat_tmod _ 90).symm
                  have hadd : (1 : Int) + ((c % 90 : Nat) : Int) = ((1 + c % 90 : Nat) : Int) := by omega
                  obtain ⟨t, ht⟩ : ∃ t, 1 + c % 90 = t := ⟨_, rfl⟩
                  rw [ht] at hadd
                  simp -dsimp -implicitDefEqProofs (disch := first | omega | (simp only [stT, u_3, ag_3, sz_3, by_3, ze_3, es_3, u_4, ag_4, sz_4, by_4, ze_4, bo_4, es_4, u_9, ag_9, sz_9, by_9, ze_9, es_9, u_22, ag_22, sz_22, by_22, ze_22, es_22, u_23, ag_23, sz_23, by_23, ze_23, es_23, u_25, ag_25, sz_25, by_25, ze_25, es_25, u_26, ag_26, sz_26, by_26, ze_26, es_26, u_27, ag_27, sz_27, by_27, ze_27, es_27]; done) | (simp only [List.append_assoc, List.cons_append, List.nil_append, pre_n, pre_c, pre_a, pre_g, pre_r]; done) | (simp only [List.length_set]; done) | (simp only [List.length_set]; omega) | assumption | decide +kernel | fail) only [↓RP, RQ, isConstA, Nat.reduceEqDiff, Nat.reduceLT, Nat.reduceAdd, Int.reduceNeg, Int.reduceLT, Int.reduceLE, Int.reduceToNat, Int.reduceEq, ↓reduceIte, ite_true, ite_false, Option.toList, Nat.reduceMul, Nat.reduceSub, Nat.reduceLeDiff, ne_eq, eq_self, u_3, ag_3, sz_3, by_3, ze_3, es_3, u_4, ag_4, sz_4, by_4, ze_4, bo_4, es_4, u_9, ag_9, sz_9, by_9, ze_9, es_9, u_22, ag_22, sz_22, by_22, ze_22, es_22, u_23, ag_23, sz_23, by_23, ze_23, es_23, u_25, ag_25, sz_25, by_25, ze_25, es_25, u_26, ag_26, sz_26, by_26, ze_26, es_26, u_27, ag_27, sz_27, by_27, ze_27, es_27, ↓AW_loop, idx_arr u_25, f65, f9, f18, f8, f7, f2, hin', harr4, hmx, hrem, hadd]
                  refine FW.mono (out_q (outB N M).2 t (by omega) (a3.ext e4) (by omega) (outB_MB N M (inv.mb hw2 hnb4))) (fun v h5 hq => ?_)
                  obtain ⟨rfl, a5, u5⟩ := hq
                  have harr5 := u5.blk hfar harr4
                  have hl1 := outB_len N M
                  have hl2 := outB_len t (outB N M).2
                  have u05 := hu3.trans ((Upd.ext [] e4))
                  refine DQ_fx1 (t := 9) (u := 69) (v := .pointer (some ⟨ar, 1, none⟩)) (by kernel_rfl) (by simp -dsimp -implicitDefEqProofs (disch := first | omega | (simp only [stT, u_3, ag_3, sz_3, by_3, ze_3, es_3, u_4, ag_4, sz_4, by_4, ze_4, bo_4, es_4, u_9, ag_9, sz_9, by_9, ze_9, es_9, u_22, ag_22, sz_22, by_22, ze_22, es_22, u_23, ag_23, sz_23, by_23, ze_23, es_23, u_25, ag_25, sz_25, by_25, ze_25, es_25, u_26, ag_26, sz_26, by_26, ze_26, es_26, u_27, ag_27, sz_27, by_27, ze_27, es_27]; done) | (simp only [List.append_assoc, List.cons_append, List.nil_append, pre_n, pre_c, pre_a, pre_g, pre_r]; done) | (simp only [List.length_set]; done) | (simp only [List.length_set]; omega) | assumption | decide +kernel | fail) only [↓RP, RQ, isConstA, Nat.reduceEqDiff, Nat.reduceLT, Nat.reduceAdd, Int.reduceNeg, Int.reduceLT, Int.reduceLE, Int.reduceToNat, Int.reduceEq, ↓reduceIte, ite_true, ite_false, Option.toList, Nat.reduceMul, Nat.reduceSub, Nat.reduceLeDiff, ne_eq, eq_self, u_3, ag_3, sz_3, by_3, ze_3, es_3, u_4, ag_4, sz_4, by_4, ze_4, bo_4, es_4, u_9, ag_9, sz_9, by_9, ze_9, es_9, u_22, ag_22, sz_22, by_22, ze_22, es_22, u_23, ag_23, sz_23, by_23, ze_23, es_23, u_25, ag_25, sz_25, by_25, ze_25, es_25, u_26, ag_26, sz_26, by_26, ze_26, es_26, u_27, ag_27, sz_27, by_27, ze_27, es_27, ↓AW_loop, idx_arr u_25, f65, f9, f18, f8, f7, f2]) ?_ ?_
                  · rw [loadA_eq, loadA_eq, harr4, harr5]
                  · simp -dsimp -implicitDefEqProofs (disch := first | omega | (simp only [stT, u_3, ag_3, sz_3, by_3, ze_3, es_3, u_4, ag_4, sz_4, by_4, ze_4, bo_4, es_4, u_9, ag_9, sz_9, by_9, ze_9, es_9, u_22, ag_22, sz_22, by_22, ze_22, es_22, u_23, ag_23, sz_23, by_23, ze_23, es_23, u_25, ag_25, sz_25, by_25, ze_25, es_25, u_26, ag_26, sz_26, by_26, ze_26, es_26, u_27, ag_27, sz_27, by_27, ze_27, es_27]; done) | (simp only [List.append_assoc, List.cons_append, List.nil_append, pre_n, pre_c, pre_a, pre_g, pre_r]; done) | (simp only [List.length_set]; done) | (simp only [List.length_set]; omega) | assumption | decide +kernel | fail) only [↓RP, RQ, isConstA, Nat.reduceEqDiff, Nat.reduceLT, Nat.reduceAdd, Int.reduceNeg, Int.reduceLT, Int.reduceLE, Int.reduceToNat, Int.reduceEq, ↓reduceIte, ite_true, ite_false, Option.toList, Nat.reduceMul, Nat.reduceSub, Nat.reduceLeDiff, ne_eq, eq_self, u_3, ag_3, sz_3, by_3, ze_3, es_3, u_4, ag_4, sz_4, by_4, ze_4, bo_4, es_4, u_9, ag_9, sz_9, by_9, ze_9, es_9, u_22, ag_22, sz_22, by_22, ze_22, es_22, u_23, ag_23, sz_23, by_23, ze_23, es_23, u_25, ag_25, sz_25, by_25, ze_25, es_25, u_26, ag_26, sz_26, by_26, ze_26, es_26, u_27, ag_27, sz_27, by_27, ze_27, es_27, ↓AW_loop, idx_arr u_25, f65, f9, f18, f8, f7, f2, hin', harr5]
                    have hadd2 := outB_add N t M
                    have hu5 : Upd h0 h5 [] (foot p sb ids) := (u05.to (G := foot p sb ids) (fun q hq => .inr (by
                      rcases uk.own q hq with h | h
                      · simp at h
                      · have := hu0.len; omega))).trans u5
                    refine ⟨by omega, by decide, 2000 - (i + 1), by omega, i + 1, N + t, by omega, rfl, by congr 1, f0, f1, ?_, ?_, by omega, by omega, (hu5.setNew h0ar).to (by simp)⟩
                    · rw [hadd2]
                      exact a5.same fun q hq => by rw [List.getElem?_set_ne (fun e => hfar (by rw [e]; exact hq))]
                    · rw [hadd2]
                      exact blk_setB0 (blkA_lt harr5)
              · have hin' : ¬ (i : Int) < 2000 := by omega
                simp -dsimp -implicitDefEqProofs (disch := first | omega | (simp only [stT, u_3, ag_3, sz_3, by_3, ze_3, es_3, u_4, ag_4, sz_4, by_4, ze_4, bo_4, es_4, u_9, ag_9, sz_9, by_9, ze_9, es_9, u_22, ag_22, sz_22, by_22, ze_22, es_22, u_23, ag_23, sz_23, by_23, ze_23, es_23, u_25, ag_25, sz_25, by_25, ze_25, es_25, u_26, ag_26, sz_26, by_26, ze_26, es_26, u_27, ag_27, sz_27, by_27, ze_27, es_27]; done) | (simp only [List.append_assoc, List.cons_append, List.nil_append, pre_n, pre_c, pre_a, pre_g, pre_r]; done) | (simp only [List.length_set]; done) | (simp only [List.length_set]; omega) | assumption | decide +kernel | fail) only [↓RP, RQ, isConstA, Nat.reduceEqDiff, Nat.reduceLT, Nat.reduceAdd, Int.reduceNeg, Int.reduceLT, Int.reduceLE, Int.reduceToNat, Int.reduceEq, ↓reduceIte, ite_true, ite_false, Option.toList, Nat.reduceMul, Nat.reduceSub, Nat.reduceLeDiff, ne_eq, eq_self, u_3, ag_3, sz_3, by_3, ze_3, es_3, u_4, ag_4, sz_4, by_4, ze_4, bo_4, es_4, u_9, ag_9, sz_9, by_9, ze_9, es_9, u_22, ag_22, sz_22, by_22, ze_22, es_22, u_23, ag_23, sz_23, by_23, ze_23, es_23, u_25, ag_25, sz_25, by_25, ze_25, es_25, u_26, ag_26, sz_26, by_26, ze_26, es_26, u_27, ag_27, sz_27, by_27, ze_27, es_27, ↓AW_loop, idx_arr u_25, f65, f18, hin']
                exact ⟨0, by omega, 2, o0, (outB N M).1, by decide, rfl, rfl, f0, f1, f2, f7, harr3, hu3, fun _ => ho0 (by omega), fun h => absurd h (by decide), fun _ => ⟨N, by omega, rfl⟩⟩
            · simp -dsimp -implicitDefEqProofs (disch := first | omega | (simp only [stT, u_3, ag_3, sz_3, by_3, ze_3, es_3, u_4, ag_4, sz_4, by_4, ze_4, bo_4, es_4, u_9, ag_9, sz_9, by_9, ze_9, es_9, u_22, ag_22, sz_22, by_22, ze_22, es_22, u_23, ag_23, sz_23, by_23, ze_23, es_23, u_25, ag_25, sz_25, by_25, ze_25, es_25, u_26, ag_26, sz_26, by_26, ze_26, es_26, u_27, ag_27, sz_27, by_27, ze_27, es_27]; done) | (simp only [List.append_assoc, List.cons_append, List.nil_append, pre_n, pre_c, pre_a, pre_g, pre_r]; done) | (simp only [List.length_set]; done) | (simp only [List.length_set]; omega) | assumption | decide +kernel | fail) only [↓RP, RQ, isConstA, Nat.reduceEqDiff, Nat.reduceLT, Nat.reduceAdd, Int.reduceNeg, Int.reduceLT, Int.reduceLE, Int.reduceToNat, Int.reduceEq, ↓reduceIte, ite_true, ite_false, Option.toList, Nat.reduceMul, Nat.reduceSub, Nat.reduceLeDiff, ne_eq, eq_self, u_3, ag_3, sz_3, by_3, ze_3, es_3, u_4, ag_4, sz_4, by_4, ze_4, bo_4, es_4, u_9, ag_9, sz_9, by_9, ze_9, es_9, u_22, ag_22, sz_22, by_22, ze_22, es_22, u_23, ag_23, sz_23, by_23, ze_23, es_23, u_25, ag_25, sz_25, by_25, ze_25, es_25, u_26, ag_26, sz_26, by_26, ze_26, es_26, u_27, ag_27, sz_27, by_27, ze_27, es_27, ↓AW_loop, idx_arr u_25, f18, f8, f0, f1, f2, f7, f9, hk1']
              exact ⟨am, harr1, (hu0.trans uk).to (by simp)⟩
      · simp -dsimp -implicitDefEqProofs (disch := first | omega | (simp only [stT, u_3, ag_3, sz_3, by_3, ze_3, es_3, u_4, ag_4, sz_4, by_4, ze_4, bo_4, es_4, u_9, ag_9, sz_9, by_9, ze_9, es_9, u_22, ag_22, sz_22, by_22, ze_22, es_22, u_23, ag_23, sz_23, by_23, ze_23, es_23, u_25, ag_25, sz_25, by_25, ze_25, es_25, u_26, ag_26, sz_26, by_26, ze_26, es_26, u_27, ag_27, sz_27, by_27, ze_27, es_27]; done) | (simp only [List.append_assoc, List.cons_append, List.nil_append, pre_n, pre_c, pre_a, pre_g, pre_r]; done) | (simp only [List.length_set]; done) | (simp only [List.length_set]; omega) | assumption | decide +kernel | fail) only [↓RP, RQ, isConstA, Nat.reduceEqDiff, Nat.reduceLT, Nat.reduceAdd, Int.reduceNeg, Int.reduceLT, Int.reduceLE, Int.reduceToNat, Int.reduceEq, ↓reduceIte, ite_true, ite_false, Option.toList, Nat.reduceMul, Nat.reduceSub, Nat.reduceLeDiff, ne_eq, eq_self, u_3, ag_3, sz_3, by_3, ze_3, es_3, u_4, ag_4, sz_4, by_4, ze_4, bo_4, es_4, u_9, ag_9, sz_9, by_9, ze_9, es_9, u_22, ag_22, sz_22, by_22, ze_22, es_22, u_23, ag_23, sz_23, by_23, ze_23, es_23, u_25, ag_25, sz_25, by_25, ze_25, es_25, u_26, ag_26, sz_26, by_26, ze_26, es_26, u_27, ag_27, sz_27, by_27, ze_27, es_27, ↓AW_loop, idx_arr u_25]
        exact ⟨rfl, f18, f0, f1, f2, f7, none, [], a1, Upd.refl _ _⟩
    · have hlt' : ¬ (k : Int) < 2 := by omega
      simp -dsimp -implicitDefEqProofs (disch := first | omega | (simp only [stT, u_3, ag_3, sz_3, by_3, ze_3, es_3, u_4, ag_4, sz_4, by_4, ze_4, bo_4, es_4, u_9, ag_9, sz_9, by_9, ze_9, es_9, u_22, ag_22, sz_22, by_22, ze_22, es_22, u_23, ag_23, sz_23, by_23, ze_23, es_23, u_25, ag_25, sz_25, by_25, ze_25, es_25, u_26, ag_26, sz_26, by_26, ze_26, es_26, u_27, ag_27, sz_27, by_27, ze_27, es_27]; done) | (simp only [List.append_assoc, List.cons_append, List.nil_append, pre_n, pre_c, pre_a, pre_g, pre_r]; done) | (simp only [List.length_set]; done) | (simp only [List.length_set]; omega) | assumption | decide +kernel | fail) only [↓RP, RQ, isConstA, Nat.reduceEqDiff, Nat.reduceLT, Nat.reduceAdd, Int.reduceNeg, Int.reduceLT, Int.reduceLE, Int.reduceToNat, Int.reduceEq, ↓reduceIte, ite_true, ite_false, Option.toList, Nat.reduceMul, Nat.reduceSub, Nat.reduceLeDiff, ne_eq, eq_self, u_3, ag_3, sz_3, by_3, ze_3, es_3, u_4, ag_4, sz_4, by_4, ze_4, bo_4, es_4, u_9, ag_9, sz_9, by_9, ze_9, es_9, u_22, ag_22, sz_22, by_22, ze_22, es_22, u_23, ag_23, sz_23, by_23, ze_23, es_23, u_25, ag_25, sz_25, by_25, ze_25, es_25, u_26, ag_26, sz_26, by_26, ze_26, es_26, u_27, ag_27, sz_27, by_27, ze_27, es_27, ↓AW_loop, idx_arr u_25, f18, hlt']
      refine FW.mono (fact_q hk) (fun v h2 hq => ?_)
      obtain ⟨rfl, u2⟩ := hq
      have harr2 := u2.blk (by simp) harr
      obtain ⟨N, hN, heN⟩ := hoN (by omega)
      have heq : o0 = o1 := by rw [ho0 (by omega), heN]; exact pieces_law inv (by omega) _ _ (by decide) hN
      subst heq
      simp -dsimp -implicitDefEqProofs (disch := first | omega | (simp only [stT, u_3, ag_3, sz_3, by_3, ze_3, es_3, u_4, ag_4, sz_4, by_4, ze_4, bo_4, es_4, u_9, ag_9, sz_9, by_9, ze_9, es_9, u_22, ag_22, sz_22, by_22, ze_22, es_22, u_23, ag_23, sz_23, by_23, ze_23, es_23, u_25, ag_25, sz_25, by_25, ze_25, es_25, u_26, ag_26, sz_26, by_26, ze_26, es_26, u_27, ag_27, sz_27, by_27, ze_27, es_27]; done) | (simp only [List.append_assoc, List.cons_append, List.nil_append, pre_n, pre_c, pre_a, pre_g, pre_r]; done) | (simp only [List.length_set]; done) | (simp only [List.length_set]; omega) | assumption | decide +kernel | fail) only [↓RP, RQ, isConstA, Nat.reduceEqDiff, Nat.reduceLT, Nat.reduceAdd, Int.reduceNeg, Int.reduceLT, Int.reduceLE, Int.reduceToNat, Int.reduceEq, ↓reduceIte, ite_true, ite_false, Option.toList, Nat.reduceMul, Nat.reduceSub, Nat.reduceLeDiff, ne_eq, eq_self, u_3, ag_3, sz_3, by_3, ze_3, es_3, u_4, ag_4, sz_4, by_4, ze_4, bo_4, es_4, u_9, ag_9, sz_9, by_9, ze_9, es_9, u_22, ag_22, sz_22, by_22, ze_22, es_22, u_23, ag_23, sz_23, by_23, ze_23, es_23, u_25, ag_25, sz_25, by_25, ze_25, es_25, u_26, ag_26, sz_26, by_26, ze_26, es_26, u_27, ag_27, sz_27, by_27, ze_27, es_27, ↓AW_loop, idx_arr u_25, f7, harr2]
      exact ⟨by decide, by decide⟩
  · simp -dsimp -implicitDefEqProofs (disch := first | omega | (simp only [stT, u_3, ag_3, sz_3, by_3, ze_3, es_3, u_4, ag_4, sz_4, by_4, ze_4, bo_4, es_4, u_9, ag_9, sz_9, by_9, ze_9, es_9, u_22, ag_22, sz_22, by_22, ze_22, es_22, u_23, ag_23, sz_23, by_23, ze_23, es_23, u_25, ag_25, sz_25, by_25, ze_25, es_25, u_26, ag_26, sz_26, by_26, ze_26, es_26, u_27, ag_27, sz_27, by_27, ze_27, es_27]; done) | (simp only [List.append_assoc, List.cons_append, List.nil_append, pre_n, pre_c, pre_a, pre_g, pre_r]; done) | (simp only [List.length_set]; done) | (simp only [List.length_set]; omega) | assumption | decide +kernel | fail) only [↓RP, RQ, isConstA, Nat.reduceEqDiff, Nat.reduceLT, Nat.reduceAdd, Int.reduceNeg, Int.reduceLT, Int.reduceLE, Int.reduceToNat, Int.reduceEq, ↓reduceIte, ite_true, ite_false, Option.toList, Nat.reduceMul, Nat.reduceSub, Nat.reduceLeDiff, ne_eq, eq_self, u_3, ag_3, sz_3, by_3, ze_3, es_3, u_4, ag_4, sz_4, by_4, ze_4, bo_4, es_4, u_9, ag_9, sz_9, by_9, ze_9, es_9, u_22, ag_22, sz_22, by_22, ze_22, es_22, u_23, ag_23, sz_23, by_23, ze_23, es_23, u_25, ag_25, sz_25, by_25, ze_25, es_25, u_26, ag_26, sz_26, by_26, ze_26, es_26, u_27, ag_27, sz_27, by_27, ze_27, es_27, ↓AW_loop, idx_arr u_25]
    rw [har]
    refine ⟨rfl, ?_, hul, by simp, by simp, by simp⟩
    rw [← har, ← List.append_assoc, ← List.length_append]
    exact blkA_new _ _
end Go.Abs
/- Mx28: the law MuxWindow: on lists, and its walk. Conditions: none. -/
set_option maxRecDepth 100000
set_option linter.unusedSimpArgs false
set_option linter.unusedVariables false
namespace Go.Abs
open Go.Proofs
theorem out_pot : ∀ (k : Nat) (m : MuxS), (outB k m).1.length + pot (outB k m).2 ≤ pot m := by
  intro k
  induction k with
  | zero => intro m; simp [outB]
  | succ k ih =>
    intro m
    rcases outB_next (m := m) k with ⟨h1, h2⟩ | ⟨m1, c, r, h1, h2, h3⟩
    · rw [h2]; simp
    · rw [h3]
      have h4 := ih { m1 with ready := r }
      have h5 : pot m1 ≤ pot m := by
        rcases ready_or h1 with rfl | ⟨hr, hf⟩
        · exact Nat.le_refl _
        · exact fill_pot hr hf
      have h6 : pot { m1 with ready := r } + 1 = pot m1 := by unfold pot; rw [h2]; simp only [List.length_cons]; omega
      simp only [List.length_cons]
      omega
/-- Nothing can be sent, and nothing is on the way. -/
structure Dry (a b : MuxS) (F : List Fr) : Prop where
  ar : a.ready = []
  ac : fillS a = none
  F : F = []
theorem out_dry {a : MuxS} (h1 : a.ready = []) (h2 : fillS a = none) (n : Nat) : outB n a = ([], a) := outB_stop (by rw [if_neg (by simp [h1])]; exact h2) n
theorem window_step {w : Nat} {T : List Pl} {a b : MuxS} {F : List Fr} {B : List Strm} (j : J w T [] [] [] a b F B []) (ht : ∀ s, s ∈ b.streams → s.taken = 0) {n k : Nat} (h10 : 10 ≤ n) (h99 : n ≤ 4096) (hd : Dry a b F ∨ pot a + 10 * k ≤ 1000) :
    ∃ b', inS b (outB n a).1 = (0, b') ∧ (∃ F' B', J w T [] [] [] (outB n a).2 b' F' B' [] ∧ (Dry (outB n a).2 b' F' ∨ pot (outB n a).2 + 10 * (k + 1) ≤ 1000)) ∧ ∀ s, s ∈ b'.streams → s.taken = 0 := by
  obtain ⟨F1, B1, j1⟩ := j.outA n
  rw [List.nil_append] at j1
  have lo := outB_len n a
  obtain ⟨ss, g, F2, e2, j2, c2, F0, hap⟩ := j1.inB (by omega)
  refine ⟨_, e2, ⟨F2, B1, j2, ?_⟩, ?_⟩
  · by_cases hl : (outB n a).1.length < n
    · obtain ⟨d1, d2⟩ := out_drain n a hl
      exact .inl ⟨d1, d2, (c2 d1 (fillS_none d2).1).2⟩
    · rcases hd with ⟨h1, h2, _⟩ | hd
      · rw [out_dry h1 h2] at hl
        simp at hl; omega
      · have := out_pot n a
        exact .inr (by omega)
  · exact appL_keep (fun s => s.taken = 0) (fun _ _ => rfl) (fun s kind body _ _ _ h _ => by
      unfold bodyS
      repeat' split
      all_goals exact h) F0 b.streams ss hap ht
theorem window_law {w : Nat} {text : List UInt8} {a b : MuxS} {B : List Strm} (j : J w [⟨text, [], false, false⟩] [] [] [] a b [] B []) (hq : fillS a = none) (ht : ∀ s, s ∈ b.streams → s.taken = 0) :
    ∃ sb, b.streams[0]? = some sb ∧ sb.inn = text.take (min text.length w) := by
  have hB : b.streams = B := by have := j.appF; rw [appL] at this; exact Option.some.inj this
  have hal := j.n
  obtain ⟨sa, hsa⟩ : ∃ sa, a.streams[0]? = some sa := ⟨_, List.getElem?_eq_getElem (by rw [hal]; exact Nat.zero_lt_one)⟩
  obtain ⟨sb, t, h1, h2, r⟩ := j.at hsa
  cases h2
  have hb : b.streams[0]? = some sb := by rw [hB]; exact h1
  refine ⟨sb, hb, ?_⟩
  have htk := ht sb (List.mem_of_getElem? hb)
  have htx := r.txt
  have hwin := r.win
  have hroom := r.room
  rw [gsum_nil] at hwin
  have hrd : rd ([] : List (List UInt8)) 0 = [] := rfl
  rw [hrd, List.nil_append] at htx
  simp only at htx
  have hc := (fillS_none hq).2 sa (List.mem_of_getElem? hsa)
  have hlen : text.length = sb.inn.length + sa.out.length := by rw [htx, List.length_append]
  have key : sa.out = [] ∨ sa.window = 0 := by
    unfold chunkS at hc
    by_cases h3 : sa.reset = true ∨ sa.ended = true
    · rcases h3 with h3 | h3
      · rw [r.rs] at h3; cases h3
      · exact .inl (r.end1 h3)
    · rw [if_neg h3] at hc
      by_cases h4 : 0 < most64 sa
      · rw [if_pos h4] at hc; simp [frameS] at hc
      · unfold most64 at h4
        by_cases h5 : sa.window = 0
        · exact .inr h5
        · exact .inl (List.length_eq_zero_iff.1 (by omega))
  rcases key with h | h
  · rw [h, List.append_nil] at htx
    rw [htx, List.take_of_length_le]
    omega
  · have h5 : sb.inn.length = w := by omega
    rw [show min text.length w = sb.inn.length by omega, htx, List.take_left']
    rfl
theorem J.mbP {w : Nat} {T : List Pl} {R : List (List UInt8)} {x y : List UInt8} {a b : MuxS} {F : List Fr} {B : List Strm} {G : List Fr} (j : J w T R x y a b F B G) (hp : pot a ≤ 2 ^ 20) : MB a := by
  unfold pot at hp
  exact ⟨j.ab, by omega, by omega, fun s hs => by have := j.outle s hs; omega⟩
def text40 (b : List UInt8) : List UInt8 := b.take (min b.length 40)
theorem text40_len (b : List UInt8) : (text40 b).length ≤ 40 := by unfold text40; rw [List.length_take]; omega
theorem window_w (Rp : List UInt8 → List UInt8) (hRl : ∀ b, (Rp b).length = 10 * b.length) (hRp : ∀ (b : List UInt8) (h : AHeap), b.length ≤ 40 → Quiet cx 24 [.string (str b), .int .i64 10] h (.string (str (Rp b)))) (z : Int) (body : List UInt8) (ls : List Int) {ai : Option Addr} {mi : Nat} {h0 : AHeap} (hbl : body.length < 2 ^ 50) (hsi : SlA intE 1 true h0 ai ls) (hls : ls.length < 2 ^ 50) :
    FW cx 8 [.int .i64 z, .string (str body), .slice ai ls.length mi] h0 fun v _ => v = .bool true := by
  have hmin1 : foldA min2A (Value.int .i64 (body.length : Int)) [.int .i64 40] = some (.int .i64 ((min body.length 40 : Nat) : Int)) := by
    simp only [foldA, min2A]; congr 2; split <;> omega
  have hx1 : body.take (min body.length 40) = text40 body := rfl
  refine FW_f Try.func8 rfl (by decide +kernel) ?_
  obtain ⟨w, hw, hw1, hw2⟩ : ∃ w : Nat, max 1 (min z 256) = (w : Int) ∧ 1 ≤ w ∧ w ≤ 256 := ⟨(max 1 (min z 256)).toNat, by omega, by omega, by omega⟩
  simp -dsimp -implicitDefEqProofs (disch := first | omega | (simp only [stT, u_3, ag_3, sz_3, by_3, ze_3, es_3, u_4, ag_4, sz_4, by_4, ze_4, bo_4, es_4, u_9, ag_9, sz_9, by_9, ze_9, es_9, u_23, ag_23, sz_23, by_23, ze_23, es_23, u_26, ag_26, sz_26, by_26, ze_26, es_26, u_27, ag_27, sz_27, by_27, ze_27, es_27]; done) | (simp only [List.append_assoc, List.cons_append, List.nil_append, pre_n, pre_c, pre_a, pre_g, pre_r]; done) | (simp only [List.length_set]; done) | (simp only [List.length_set]; omega) | assumption | decide +kernel | fail) only [↓RP, RQ, isConstA, Nat.reduceEqDiff, Nat.reduceLT, Nat.reduceAdd, Int.reduceNeg, Int.reduceLT, Int.reduceLE, Int.reduceToNat, Int.reduceEq, ↓reduceIte, ite_true, ite_false, Option.toList, Nat.reduceMul, Nat.reduceSub, Nat.reduceLeDiff, ne_eq, eq_self, u_3, ag_3, sz_3, by_3, ze_3, es_3, u_4, ag_4, sz_4, by_4, ze_4, bo_4, es_4, u_9, ag_9, sz_9, by_9, ze_9, es_9, u_23, ag_23, sz_23, by_23, ze_23, es_23, u_26, ag_26, sz_26, by_26, ze_26, es_26, u_27, ag_27, sz_27, by_27, ze_27, es_27, ↓AW_loop]
  refine (within_q z 1 256 _).use' fun g => ?_
  rw [hw]
  clear hw
  simp -dsimp -implicitDefEqProofs (disch := first | omega | (simp only [stT, u_3, ag_3, sz_3, by_3, ze_3, es_3, u_4, ag_4, sz_4, by_4, ze_4, bo_4, es_4, u_9, ag_9, sz_9, by_9, ze_9, es_9, u_23, ag_23, sz_23, by_23, ze_23, es_23, u_26, ag_26, sz_26, by_26, ze_26, es_26, u_27, ag_27, sz_27, by_27, ze_27, es_27]; done) | (simp only [List.append_assoc, List.cons_append, List.nil_append, pre_n, pre_c, pre_a, pre_g, pre_r]; done) | (simp only [List.length_set]; done) | (simp only [List.length_set]; omega) | assumption | decide +kernel | fail) only [↓RP, RQ, isConstA, Nat.reduceEqDiff, Nat.reduceLT, Nat.reduceAdd, Int.reduceNeg, Int.reduceLT, Int.reduceLE, Int.reduceToNat, Int.reduceEq, ↓reduceIte, ite_true, ite_false, Option.toList, Nat.reduceMul, Nat.reduceSub, Nat.reduceLeDiff, ne_eq, eq_self, u_3, ag_3, sz_3, by_3, ze_3, es_3, u_4, ag_4, sz_4, by_4, ze_4, bo_4, es_4, u_9, ag_9, sz_9, by_9, ze_9, es_9, u_23, ag_23, sz_23, by_23, ze_23, es_23, u_26, ag_26, sz_26, by_26, ze_26, es_26, u_27, ag_27, sz_27, by_27, ze_27, es_27, ↓AW_loop]
  refine FW.mono (new_q true w hw1 hw2 _) (fun v h1 hq => ?_)
  obtain ⟨rfl, a1, e1⟩ := hq
  have ex1 : Ext h0 h1 := by rw [e1, List.append_assoc]; exact Ext.app _ _
  have hpa : h0.length ≤ (h0 ++ g).length := by simp
  have hpal : (h0 ++ g).length < h1.length := by rw [e1]; simp
  clear e1
  generalize (h0 ++ g).length = pa at a1 hpa hpal
  simp -dsimp -implicitDefEqProofs (disch := first | omega | (simp only [stT, u_3, ag_3, sz_3, by_3, ze_3, es_3, u_4, ag_4, sz_4, by_4, ze_4, bo_4, es_4, u_9, ag_9, sz_9, by_9, ze_9, es_9, u_23, ag_23, sz_23, by_23, ze_23, es_23, u_26, ag_26, sz_26, by_26, ze_26, es_26, u_27, ag_27, sz_27, by_27, ze_27, es_27]; done) | (simp only [List.append_assoc, List.cons_append, List.nil_append, pre_n, pre_c, pre_a, pre_g, pre_r]; done) | (simp only [List.length_set]; done) | (simp only [List.length_set]; omega) | assumption | decide +kernel | fail) only [↓RP, RQ, isConstA, Nat.reduceEqDiff, Nat.reduceLT, Nat.reduceAdd, Int.reduceNeg, Int.reduceLT, Int.reduceLE, Int.reduceToNat, Int.reduceEq, ↓reduceIte, ite_true, ite_false, Option.toList, Nat.reduceMul, Nat.reduceSub, Nat.reduceLeDiff, ne_eq, eq_self, u_3, ag_3, sz_3, by_3, ze_3, es_3, u_4, ag_4, sz_4, by_4, ze_4, bo_4, es_4, u_9, ag_9, sz_9, by_9, ze_9, es_9, u_23, ag_23, sz_23, by_23, ze_23, es_23, u_26, ag_26, sz_26, by_26, ze_26, es_26, u_27, ag_27, sz_27, by_27, ze_27, es_27, ↓AW_loop]
  refine FW.mono (new_q false w hw1 hw2 h1) (fun v h2 hq => ?_)
  obtain ⟨rfl, b2, e2⟩ := hq
  have ex2 : Ext h1 h2 := by rw [e2]; exact Ext.app _ _
  have a2 := a1.ext ex2
  clear e2
  have hpb : pa < h1.length := hpal
  generalize h1.length = pb at b2 hpb
  simp -dsimp -implicitDefEqProofs (disch := first | omega | (simp only [stT, u_3, ag_3, sz_3, by_3, ze_3, es_3, u_4, ag_4, sz_4, by_4, ze_4, bo_4, es_4, u_9, ag_9, sz_9, by_9, ze_9, es_9, u_23, ag_23, sz_23, by_23, ze_23, es_23, u_26, ag_26, sz_26, by_26, ze_26, es_26, u_27, ag_27, sz_27, by_27, ze_27, es_27]; done) | (simp only [List.append_assoc, List.cons_append, List.nil_append, pre_n, pre_c, pre_a, pre_g, pre_r]; done) | (simp only [List.length_set]; done) | (simp only [List.length_set]; omega) | assumption | decide +kernel | fail) only [↓RP, RQ, isConstA, Nat.reduceEqDiff, Nat.reduceLT, Nat.reduceAdd, Int.reduceNeg, Int.reduceLT, Int.reduceLE, Int.reduceToNat, Int.reduceEq, ↓reduceIte, ite_true, ite_false, Option.toList, Nat.reduceMul, Nat.reduceSub, Nat.reduceLeDiff, ne_eq, eq_self, u_3, ag_3, sz_3, by_3, ze_3, es_3, u_4, ag_4, sz_4, by_4, ze_4, bo_4, es_4, u_9, ag_9, sz_9, by_9, ze_9, es_9, u_23, ag_23, sz_23, by_23, ze_23, es_23, u_26, ag_26, sz_26, by_26, ze_26, es_26, u_27, ag_27, sz_27, by_27, ze_27, es_27, ↓AW_loop, ptrC]
  refine FW.mono (fact_q h2) (fun v h3 hq => ?_)
  obtain ⟨rfl, u3⟩ := hq
  have ex3 := u3.toExt
  have ex03 := (ex1.trans ex2).trans ex3
  have a3 := a2.ext ex3
  have b3 := b2.ext ex3
  have tw0 : TW (fun q => q < h0.length) h0 h3 pa pb none none [] [] none none (newM true w) (newM false w) [] [] := {
    ma := a3, mb := b3, oa := .inl ⟨rfl, rfl⟩, ob := .inl ⟨rfl, rfl⟩,
    dab := fun q h1 h2 => by simp [foot] at h1 h2; omega,
    da1 := fun q h => (by cases h), db1 := fun q h => (by cases h), da2 := fun q h => (by cases h), db2 := fun q h => (by cases h), dl := fun q h => (by cases h),
    na := fun q h1 h2 => by simp [foot] at h1; omega,
    nb := fun q h1 h2 => by simp [foot] at h1; omega,
    n1 := fun q h => (by cases h), n2 := fun q h => (by cases h),
    wl := fun q h => h, len := ex03.len, keep := fun q h => ex03.get h }
  simp -dsimp -implicitDefEqProofs (disch := first | omega | (simp only [stT, u_3, ag_3, sz_3, by_3, ze_3, es_3, u_4, ag_4, sz_4, by_4, ze_4, bo_4, es_4, u_9, ag_9, sz_9, by_9, ze_9, es_9, u_23, ag_23, sz_23, by_23, ze_23, es_23, u_26, ag_26, sz_26, by_26, ze_26, es_26, u_27, ag_27, sz_27, by_27, ze_27, es_27]; done) | (simp only [List.append_assoc, List.cons_append, List.nil_append, pre_n, pre_c, pre_a, pre_g, pre_r]; done) | (simp only [List.length_set]; done) | (simp only [List.length_set]; omega) | assumption | decide +kernel | fail) only [↓RP, RQ, isConstA, Nat.reduceEqDiff, Nat.reduceLT, Nat.reduceAdd, Int.reduceNeg, Int.reduceLT, Int.reduceLE, Int.reduceToNat, Int.reduceEq, ↓reduceIte, ite_true, ite_false, Option.toList, Nat.reduceMul, Nat.reduceSub, Nat.reduceLeDiff, ne_eq, eq_self, u_3, ag_3, sz_3, by_3, ze_3, es_3, u_4, ag_4, sz_4, by_4, ze_4, bo_4, es_4, u_9, ag_9, sz_9, by_9, ze_9, es_9, u_23, ag_23, sz_23, by_23, ze_23, es_23, u_26, ag_26, sz_26, by_26, ze_26, es_26, u_27, ag_27, sz_27, by_27, ze_27, es_27, ↓AW_loop, hmin1, hx1]
  refine ⟨by omega, ?_⟩
  have htl := text40_len body
  refine (hRp (text40 body) _ htl).use' fun g4 => ?_
  have hrl := hRl (text40 body)
  generalize Rp (text40 body) = text at *
  have htx : text.length ≤ 400 := by omega
  have tw4 := tw0.app g4
  have hfold : ∀ q, Value.pointer (some ⟨q, 0, none⟩) = ptrC q := fun q => rfl
  simp -dsimp -implicitDefEqProofs (disch := first | omega | (simp only [stT, u_3, ag_3, sz_3, by_3, ze_3, es_3, u_4, ag_4, sz_4, by_4, ze_4, bo_4, es_4, u_9, ag_9, sz_9, by_9, ze_9, es_9, u_23, ag_23, sz_23, by_23, ze_23, es_23, u_26, ag_26, sz_26, by_26, ze_26, es_26, u_27, ag_27, sz_27, by_27, ze_27, es_27]; done) | (simp only [List.append_assoc, List.cons_append, List.nil_append, pre_n, pre_c, pre_a, pre_g, pre_r]; done) | (simp only [List.length_set]; done) | (simp only [List.length_set]; omega) | assumption | decide +kernel | fail) only [↓RP, RQ, isConstA, Nat.reduceEqDiff, Nat.reduceLT, Nat.reduceAdd, Int.reduceNeg, Int.reduceLT, Int.reduceLE, Int.reduceToNat, Int.reduceEq, ↓reduceIte, ite_true, ite_false, Option.toList, Nat.reduceMul, Nat.reduceSub, Nat.reduceLeDiff, ne_eq, eq_self, u_3, ag_3, sz_3, by_3, ze_3, es_3, u_4, ag_4, sz_4, by_4, ze_4, bo_4, es_4, u_9, ag_9, sz_9, by_9, ze_9, es_9, u_23, ag_23, sz_23, by_23, ze_23, es_23, u_26, ag_26, sz_26, by_26, ze_26, es_26, u_27, ag_27, sz_27, by_27, ze_27, es_27, ↓AW_loop, newM, ite_true]
  refine FW.mono (open_q (newM true w) [] tw4.ma rfl (by decide) (by simp [countS, newM]) (by decide) (by simp [newM]) (by simp [newM]) (fun s hs => by simp [newM] at hs)) (fun v h5 hq => ?_)
  obtain ⟨rfl, sa5, ia5, a5, u5⟩ := hq
  have hl5 : ia5.length = 1 := a5.len
  simp -dsimp -implicitDefEqProofs (disch := first | omega | (simp only [stT, u_3, ag_3, sz_3, by_3, ze_3, es_3, u_4, ag_4, sz_4, by_4, ze_4, bo_4, es_4, u_9, ag_9, sz_9, by_9, ze_9, es_9, u_23, ag_23, sz_23, by_23, ze_23, es_23, u_26, ag_26, sz_26, by_26, ze_26, es_26, u_27, ag_27, sz_27, by_27, ze_27, es_27]; done) | (simp only [List.append_assoc, List.cons_append, List.nil_append, pre_n, pre_c, pre_a, pre_g, pre_r]; done) | (simp only [List.length_set]; done) | (simp only [List.length_set]; omega) | assumption | decide +kernel | fail) only [↓RP, RQ, isConstA, Nat.reduceEqDiff, Nat.reduceLT, Nat.reduceAdd, Int.reduceNeg, Int.reduceLT, Int.reduceLE, Int.reduceToNat, Int.reduceEq, ↓reduceIte, ite_true, ite_false, Option.toList, Nat.reduceMul, Nat.reduceSub, Nat.reduceLeDiff, ne_eq, eq_self, u_3, ag_3, sz_3, by_3, ze_3, es_3, u_4, ag_4, sz_4, by_4, ze_4, bo_4, es_4, u_9, ag_9, sz_9, by_9, ze_9, es_9, u_23, ag_23, sz_23, by_23, ze_23, es_23, u_26, ag_26, sz_26, by_26, ze_26, es_26, u_27, ag_27, sz_27, by_27, ze_27, es_27, ↓AW_loop, newM, openS, ite_true]
  refine FW.mono (write_q (openS (newM true w) []) 1 0 (newStrm (newM true w) 1 []) text a5 (by omega) rfl rfl rfl rfl rfl (by simp [newStrm]) (by omega)) (fun v h6 hq => ?_)
  obtain ⟨rfl, a6, u6⟩ := hq
  have hmt : min text.length (4096 - (newStrm (newM true w) 1 []).out.length) = text.length := by simp only [newStrm, List.length_nil]; omega
  have hst : writeM (openS (newM true w) []) 0 (newStrm (newM true w) 1 []) text = openW (newM true w) [] text false := by
    have h2 : text.take (min text.length 4096) = text := List.take_of_length_le (by omega)
    simp only [writeM, openS, newM, newStrm, openW, List.length_nil, Nat.sub_zero, List.nil_append, h2, List.set_cons_zero, if_true]
  rw [hst] at a6
  rw [hmt]
  have t6 := tw4.stepA a6 (u5.trans u6)
  have j0 := (J.new hw1 hw2).openW (by decide) rfl [] text false (by decide) (by omega)
  have hpot : pot (openW (newM true w) [] text false) + 10 * 0 ≤ 1000 := by
    unfold pot openW openS newM
    simp only [List.nil_append, List.map_cons, List.map_nil, List.sum_cons, List.sum_nil, cost, frameS_len, List.length_nil, newStrm]
    simp only [Bool.false_eq_true, or_self, if_false]
    omega
  generalize openW (newM true w) [] text false = A0 at *
  simp -dsimp -implicitDefEqProofs (disch := first | omega | (simp only [stT, u_3, ag_3, sz_3, by_3, ze_3, es_3, u_4, ag_4, sz_4, by_4, ze_4, bo_4, es_4, u_9, ag_9, sz_9, by_9, ze_9, es_9, u_23, ag_23, sz_23, by_23, ze_23, es_23, u_26, ag_26, sz_26, by_26, ze_26, es_26, u_27, ag_27, sz_27, by_27, ze_27, es_27]; done) | (simp only [List.append_assoc, List.cons_append, List.nil_append, pre_n, pre_c, pre_a, pre_g, pre_r]; done) | (simp only [List.length_set]; done) | (simp only [List.length_set]; omega) | assumption | decide +kernel | fail) only [↓RP, RQ, isConstA, Nat.reduceEqDiff, Nat.reduceLT, Nat.reduceAdd, Int.reduceNeg, Int.reduceLT, Int.reduceLE, Int.reduceToNat, Int.reduceEq, ↓reduceIte, ite_true, ite_false, Option.toList, Nat.reduceMul, Nat.reduceSub, Nat.reduceLeDiff, ne_eq, eq_self, u_3, ag_3, sz_3, by_3, ze_3, es_3, u_4, ag_4, sz_4, by_4, ze_4, bo_4, es_4, u_9, ag_9, sz_9, by_9, ze_9, es_9, u_23, ag_23, sz_23, by_23, ze_23, es_23, u_26, ag_26, sz_26, by_26, ze_26, es_26, u_27, ag_27, sz_27, by_27, ze_27, es_27, ↓AW_loop]
  refine LW_rule (fun n fr h' => ∃ (k : Nat) (sa sb : Option Nat) (ia ib : List Nat) (a' b' : MuxS), k ≤ 200 ∧ n = 200 - k ∧ fget fr 65 = .int .i64 k ∧ fget fr 7 = ptrC pa ∧ fget fr 9 = ptrC pb ∧ fget fr 0 = .int .i64 w ∧ fget fr 1 = .string (str text) ∧ fget fr 2 = .slice ai ls.length mi ∧ fget fr 11 = .int .i64 1 ∧ fget fr 13 = .int .i64 text.length ∧
      TW (fun q => q < h0.length) h0 h' pa pb sa sb ia ib none none a' b' [] [] ∧ (∃ F B, J w [⟨text, [], false, false⟩] [] [] [] a' b' F B [] ∧ (Dry a' b' F ∨ pot a' + 10 * k ≤ 1000)) ∧ pot a' ≤ 1000 ∧ ∀ s, s ∈ b'.streams → s.taken = 0) ?_ 200 _ _ ⟨0, sa5, none, ia5, [], A0, newM false w, by omega, rfl, ?_⟩
  · rintro n fr h' ⟨k, sa, sb, ia, ib, a', b', hk, hn, f65, f7, f9, f0, f1, f2, f11, f13, t, ⟨F, B, jj, hd⟩, hp, htk⟩
    by_cases hlt : k < 200
    · have hlt' : (k : Int) < 200 := by omega
      have hs' := hsi.keep t.keep
      simp -dsimp -implicitDefEqProofs (disch := first | omega | (simp only [stT, u_3, ag_3, sz_3, by_3, ze_3, es_3, u_4, ag_4, sz_4, by_4, ze_4, bo_4, es_4, u_9, ag_9, sz_9, by_9, ze_9, es_9, u_23, ag_23, sz_23, by_23, ze_23, es_23, u_26, ag_26, sz_26, by_26, ze_26, es_26, u_27, ag_27, sz_27, by_27, ze_27, es_27]; done) | (simp only [List.append_assoc, List.cons_append, List.nil_append, pre_n, pre_c, pre_a, pre_g, pre_r]; done) | (simp only [List.length_set]; done) | (simp only [List.length_set]; omega) | assumption | decide +kernel | fail) only [↓RP, RQ, isConstA, Nat.reduceEqDiff, Nat.reduceLT, Nat.reduceAdd, Int.reduceNeg, Int.reduceLT, Int.reduceLE, Int.reduceToNat, Int.reduceEq, ↓reduceIte, ite_true, ite_false, Option.toList, Nat.reduceMul, Nat.reduceSub, Nat.reduceLeDiff, ne_eq, eq_self, u_3, ag_3, sz_3, by_3, ze_3, es_3, u_4, ag_4, sz_4, by_4, ze_4, bo_4, es_4, u_9, ag_9, sz_9, by_9, ze_9, es_9, u_23, ag_23, sz_23, by_23, ze_23, es_23, u_26, ag_26, sz_26, by_26, ze_26, es_26, u_27, ag_27, sz_27, by_27, ze_27, es_27, ↓AW_loop, f65, f7, f9, f0, f1, f2, f11, f13, hlt']
      refine (at_q ls k 20 (by omega) hs' hls).use' fun g => ?_
      have hmx : foldA max2A (Value.int .i64 0) [.int .i64 (atS ls k 20)] = some (.int .i64 (((max 0 (atS ls k 20)).toNat : Nat) : Int)) := by
        simp only [foldA, max2A]; congr 2; split <;> omega
      obtain ⟨n10, n99⟩ := bytes10_le ls k
      have hN0 : bytes10 ls k = 10 + (max 0 (atS ls k 20)).toNat % 90 := rfl
      generalize hNN : bytes10 ls k = N at n10 n99 hN0
      generalize (max 0 (atS ls k 20)).toNat = cc at hmx hN0
      have hrem : (cc : Int).tmod 90 = ((cc % 90 : Nat) : Int) := (Int.ofNat_tmod _ 90).symm
      have hadd : (10 : Int) + ((cc % 90 : Nat) : Int) = ((N : Nat) : Int) := by omega
      obtain ⟨b1, e1, ⟨F', B', j', d'⟩, tk'⟩ := window_step jj htk n10 (by omega) hd
      have l1 := outB_len N a'
      have hpo := out_pot N a'
      have t1 := t.app g
      have hla := t.ma.len
      have hlb := t.mb.len
      have hn1 := jj.n
      have hn3 := jj.lenb
      simp only [List.length_singleton] at hn1 hn3
      simp -dsimp -implicitDefEqProofs (disch := first | omega | (simp only [stT, u_3, ag_3, sz_3, by_3, ze_3, es_3, u_4, ag_4, sz_4, by_4, ze_4, bo_4, es_4, u_9, ag_9, sz_9, by_9, ze_9, es_9, u_23, ag_23, sz_23, by_23, ze_23, es_23, u_26, ag_26, sz_26, by_26, ze_26, es_26, u_27, ag_27, sz_27, by_27, ze_27, es_27]; done) | (simp only [List.append_assoc, List.cons_append, List.nil_append, pre_n, pre_c, pre_a, pre_g, pre_r]; done) | (simp only [List.length_set]; done) | (simp only [List.length_set]; omega) | assumption | decide +kernel | fail) only [↓RP, RQ, isConstA, Nat.reduceEqDiff, Nat.reduceLT, Nat.reduceAdd, Int.reduceNeg, Int.reduceLT, Int.reduceLE, Int.reduceToNat, Int.reduceEq, ↓reduceIte, ite_true, ite_false, Option.toList, Nat.reduceMul, Nat.reduceSub, Nat.reduceLeDiff, ne_eq, eq_self, u_3, ag_3, sz_3, by_3, ze_3, es_3, u_4, ag_4, sz_4, by_4, ze_4, bo_4, es_4, u_9, ag_9, sz_9, by_9, ze_9, es_9, u_23, ag_23, sz_23, by_23, ze_23, es_23, u_26, ag_26, sz_26, by_26, ze_26, es_26, u_27, ag_27, sz_27, by_27, ze_27, es_27, ↓AW_loop, f65, f7, f9, f0, f1, f2, f11, f13, hlt', hmx, hrem, hadd]
      refine FW.mono (out_q a' N (by omega) t1.ma (by omega) (jj.mbP (by omega))) (fun v h7 hq => ?_)
      obtain ⟨rfl, ma1, u1⟩ := hq
      have t2 := t1.stepA ma1 u1
      simp -dsimp -implicitDefEqProofs (disch := first | omega | (simp only [stT, u_3, ag_3, sz_3, by_3, ze_3, es_3, u_4, ag_4, sz_4, by_4, ze_4, bo_4, es_4, u_9, ag_9, sz_9, by_9, ze_9, es_9, u_23, ag_23, sz_23, by_23, ze_23, es_23, u_26, ag_26, sz_26, by_26, ze_26, es_26, u_27, ag_27, sz_27, by_27, ze_27, es_27]; done) | (simp only [List.append_assoc, List.cons_append, List.nil_append, pre_n, pre_c, pre_a, pre_g, pre_r]; done) | (simp only [List.length_set]; done) | (simp only [List.length_set]; omega) | assumption | decide +kernel | fail) only [↓RP, RQ, isConstA, Nat.reduceEqDiff, Nat.reduceLT, Nat.reduceAdd, Int.reduceNeg, Int.reduceLT, Int.reduceLE, Int.reduceToNat, Int.reduceEq, ↓reduceIte, ite_true, ite_false, Option.toList, Nat.reduceMul, Nat.reduceSub, Nat.reduceLeDiff, ne_eq, eq_self, u_3, ag_3, sz_3, by_3, ze_3, es_3, u_4, ag_4, sz_4, by_4, ze_4, bo_4, es_4, u_9, ag_9, sz_9, by_9, ze_9, es_9, u_23, ag_23, sz_23, by_23, ze_23, es_23, u_26, ag_26, sz_26, by_26, ze_26, es_26, u_27, ag_27, sz_27, by_27, ze_27, es_27, ↓AW_loop, f65, f7, f9, f0, f1, f2, f11, f13, hlt']
      refine FW.mono (in_q JInv JInv.ok b' (outB N a').1 t2.mb (by omega) (fun _ => by have := jj.bg; omega) (fun _ _ => jj.jinv _ (by omega))) (fun v h8 hq => ?_)
      obtain ⟨rfl, sb2, ib2, mb2, u2⟩ := hq
      rw [e1] at mb2 ⊢
      have t3 := t2.stepB mb2 u2
      simp -dsimp -implicitDefEqProofs (disch := first | omega | (simp only [stT, u_3, ag_3, sz_3, by_3, ze_3, es_3, u_4, ag_4, sz_4, by_4, ze_4, bo_4, es_4, u_9, ag_9, sz_9, by_9, ze_9, es_9, u_23, ag_23, sz_23, by_23, ze_23, es_23, u_26, ag_26, sz_26, by_26, ze_26, es_26, u_27, ag_27, sz_27, by_27, ze_27, es_27]; done) | (simp only [List.append_assoc, List.cons_append, List.nil_append, pre_n, pre_c, pre_a, pre_g, pre_r]; done) | (simp only [List.length_set]; done) | (simp only [List.length_set]; omega) | assumption | decide +kernel | fail) only [↓RP, RQ, isConstA, Nat.reduceEqDiff, Nat.reduceLT, Nat.reduceAdd, Int.reduceNeg, Int.reduceLT, Int.reduceLE, Int.reduceToNat, Int.reduceEq, ↓reduceIte, ite_true, ite_false, Option.toList, Nat.reduceMul, Nat.reduceSub, Nat.reduceLeDiff, ne_eq, eq_self, u_3, ag_3, sz_3, by_3, ze_3, es_3, u_4, ag_4, sz_4, by_4, ze_4, bo_4, es_4, u_9, ag_9, sz_9, by_9, ze_9, es_9, u_23, ag_23, sz_23, by_23, ze_23, es_23, u_26, ag_26, sz_26, by_26, ze_26, es_26, u_27, ag_27, sz_27, by_27, ze_27, es_27, ↓AW_loop, f65, f7, f9, f0, f1, f2, f11, f13, hlt']
      exact ⟨200 - (k + 1), by omega, k + 1, sa, sb2, ia, ib2, _, b1, by omega, rfl, by congr 1, t3, ⟨F', B', j', d'⟩, by omega, tk'⟩
    · have hlt' : ¬ (k : Int) < 200 := by omega
      have hdry : Dry a' b' F := by
        rcases hd with hd | hd
        · exact hd
        · omega
      obtain ⟨d1, d2, rfl⟩ := hdry
      obtain ⟨sbb, s1, s2⟩ := window_law jj d2 htk
      have hn3 := jj.lenb
      simp only [List.length_singleton] at hn3
      have hlb := t.mb.len
      have hid := jj.idsb 0 sbb s1
      have bks := jj.bk sbb (List.mem_of_getElem? s1)
      have hsum := bks.sum
      simp -dsimp -implicitDefEqProofs (disch := first | omega | (simp only [stT, u_3, ag_3, sz_3, by_3, ze_3, es_3, u_4, ag_4, sz_4, by_4, ze_4, bo_4, es_4, u_9, ag_9, sz_9, by_9, ze_9, es_9, u_23, ag_23, sz_23, by_23, ze_23, es_23, u_26, ag_26, sz_26, by_26, ze_26, es_26, u_27, ag_27, sz_27, by_27, ze_27, es_27]; done) | (simp only [List.append_assoc, List.cons_append, List.nil_append, pre_n, pre_c, pre_a, pre_g, pre_r]; done) | (simp only [List.length_set]; done) | (simp only [List.length_set]; omega) | assumption | decide +kernel | fail) only [↓RP, RQ, isConstA, Nat.reduceEqDiff, Nat.reduceLT, Nat.reduceAdd, Int.reduceNeg, Int.reduceLT, Int.reduceLE, Int.reduceToNat, Int.reduceEq, ↓reduceIte, ite_true, ite_false, Option.toList, Nat.reduceMul, Nat.reduceSub, Nat.reduceLeDiff, ne_eq, eq_self, u_3, ag_3, sz_3, by_3, ze_3, es_3, u_4, ag_4, sz_4, by_4, ze_4, bo_4, es_4, u_9, ag_9, sz_9, by_9, ze_9, es_9, u_23, ag_23, sz_23, by_23, ze_23, es_23, u_26, ag_26, sz_26, by_26, ze_26, es_26, u_27, ag_27, sz_27, by_27, ze_27, es_27, ↓AW_loop, f65, f7, f9, f0, f1, f2, f11, f13, hlt']
      have hwg := jj.wireG
      rw [encF_nil] at hwg
      have hctl : b'.control.length = 0 := by
        have := congrArg List.length hwg
        simp only [List.length_append, List.length_nil] at this
        omega
      have hil : sbb.inn.length ≤ 256 := by omega
      have hi1 : sbb.id = 1 := by omega
      have hf := find_ids' jj.idsb s1
      rw [hi1] at hf
      refine FW.mono (read_q b' 1 0 4096 sbb t.mb (by omega) hf s1 jj.bb (by omega) (by rw [jj.bw]; omega) (by omega) (by omega) (by omega) (by omega)) (fun v h7 hq => ?_)
      obtain ⟨rfl, mb7, u7⟩ := hq
      rw [List.take_of_length_le (i := min 4096 sbb.inn.length) (by omega), s2]
      have hbr : (readM b' 0 sbb 1 (min 4096 sbb.inn.length)).broken = false := by unfold readM; split <;> exact jj.bb
      generalize readM b' 0 sbb 1 (min 4096 sbb.inn.length) = b9 at *
      have hmin2 : foldA min2A (Value.int .i64 (text.length : Int)) [.int .i64 (w : Int)] = some (.int .i64 ((min text.length w : Nat) : Int)) := by
        simp only [foldA, min2A]; congr 2; split <;> omega
      simp -dsimp -implicitDefEqProofs (disch := first | omega | (simp only [stT, u_3, ag_3, sz_3, by_3, ze_3, es_3, u_4, ag_4, sz_4, by_4, ze_4, bo_4, es_4, u_9, ag_9, sz_9, by_9, ze_9, es_9, u_23, ag_23, sz_23, by_23, ze_23, es_23, u_26, ag_26, sz_26, by_26, ze_26, es_26, u_27, ag_27, sz_27, by_27, ze_27, es_27]; done) | (simp only [List.append_assoc, List.cons_append, List.nil_append, pre_n, pre_c, pre_a, pre_g, pre_r]; done) | (simp only [List.length_set]; done) | (simp only [List.length_set]; omega) | assumption | decide +kernel | fail) only [↓RP, RQ, isConstA, Nat.reduceEqDiff, Nat.reduceLT, Nat.reduceAdd, Int.reduceNeg, Int.reduceLT, Int.reduceLE, Int.reduceToNat, Int.reduceEq, ↓reduceIte, ite_true, ite_false, Option.toList, Nat.reduceMul, Nat.reduceSub, Nat.reduceLeDiff, ne_eq, eq_self, u_3, ag_3, sz_3, by_3, ze_3, es_3, u_4, ag_4, sz_4, by_4, ze_4, bo_4, es_4, u_9, ag_9, sz_9, by_9, ze_9, es_9, u_23, ag_23, sz_23, by_23, ze_23, es_23, u_26, ag_26, sz_26, by_26, ze_26, es_26, u_27, ag_27, sz_27, by_27, ze_27, es_27, ↓AW_loop, f65, f7, f9, f0, f1, f2, f11, f13, hlt']
      refine (broken_q b9 mb7).use' fun g9 => ?_
      rw [hbr]
      simp -dsimp -implicitDefEqProofs (disch := first | omega | (simp only [stT, u_3, ag_3, sz_3, by_3, ze_3, es_3, u_4, ag_4, sz_4, by_4, ze_4, bo_4, es_4, u_9, ag_9, sz_9, by_9, ze_9, es_9, u_23, ag_23, sz_23, by_23, ze_23, es_23, u_26, ag_26, sz_26, by_26, ze_26, es_26, u_27, ag_27, sz_27, by_27, ze_27, es_27]; done) | (simp only [List.append_assoc, List.cons_append, List.nil_append, pre_n, pre_c, pre_a, pre_g, pre_r]; done) | (simp only [List.length_set]; done) | (simp only [List.length_set]; omega) | assumption | decide +kernel | fail) only [↓RP, RQ, isConstA, Nat.reduceEqDiff, Nat.reduceLT, Nat.reduceAdd, Int.reduceNeg, Int.reduceLT, Int.reduceLE, Int.reduceToNat, Int.reduceEq, ↓reduceIte, ite_true, ite_false, Option.toList, Nat.reduceMul, Nat.reduceSub, Nat.reduceLeDiff, ne_eq, eq_self, u_3, ag_3, sz_3, by_3, ze_3, es_3, u_4, ag_4, sz_4, by_4, ze_4, bo_4, es_4, u_9, ag_9, sz_9, by_9, ze_9, es_9, u_23, ag_23, sz_23, by_23, ze_23, es_23, u_26, ag_26, sz_26, by_26, ze_26, es_26, u_27, ag_27, sz_27, by_27, ze_27, es_27, ↓AW_loop, f65, f7, f9, f0, f1, f2, f11, f13, hlt', hmin2]
      omega
  · simp -dsimp -implicitDefEqProofs (disch := first | omega | (simp only [stT, u_3, ag_3, sz_3, by_3, ze_3, es_3, u_4, ag_4, sz_4, by_4, ze_4, bo_4, es_4, u_9, ag_9, sz_9, by_9, ze_9, es_9, u_23, ag_23, sz_23, by_23, ze_23, es_23, u_26, ag_26, sz_26, by_26, ze_26, es_26, u_27, ag_27, sz_27, by_27, ze_27, es_27]; done) | (simp only [List.append_assoc, List.cons_append, List.nil_append, pre_n, pre_c, pre_a, pre_g, pre_r]; done) | (simp only [List.length_set]; done) | (simp only [List.length_set]; omega) | assumption | decide +kernel | fail) only [↓RP, RQ, isConstA, Nat.reduceEqDiff, Nat.reduceLT, Nat.reduceAdd, Int.reduceNeg, Int.reduceLT, Int.reduceLE, Int.reduceToNat, Int.reduceEq, ↓reduceIte, ite_true, ite_false, Option.toList, Nat.reduceMul, Nat.reduceSub, Nat.reduceLeDiff, ne_eq, eq_self, u_3, ag_3, sz_3, by_3, ze_3, es_3, u_4, ag_4, sz_4, by_4, ze_4, bo_4, es_4, u_9, ag_9, sz_9, by_9, ze_9, es_9, u_23, ag_23, sz_23, by_23, ze_23, es_23, u_26, ag_26, sz_26, by_26, ze_26, es_26, u_27, ag_27, sz_27, by_27, ze_27, es_27, ↓AW_loop]
    exact ⟨rfl, rfl, t6, ⟨_, _, j0, .inr hpot⟩, by omega, fun s hs => by simp [newM] at hs⟩
end Go.Abs
/- MxRow5: MuxWindow: without reading, an end never receives more than its window of a stream, for every input. Conditions: none. -/
set_option maxRecDepth 100000
set_option linter.unusedVariables false
namespace Go.Proofs.Ytknhmkijmbcnhaa.muxWindow
open Go.ChangeShapes Go.WideShapes Go.ChangeAt Go.RowKit Go.Abs
open Go.ChangeMaps (open_string shut_string)
theorem own : ownKnob Try.prog.godebug = none := by kernel_rfl
theorem laidOut : laidOutB Try.prog = true := by kernel_rfl
theorem lifted (os : Os) (started : os.Started) (H : Type) (enc : TypeId × Value → H) :
    ReturnsInHanded {} Try.checked os 8 .any (Rows.muxWindowSpec.pre6 enc Try.prog Try.f8 Rows.muxWindowRow.domain false) (Rows.muxWindowSpec.post enc Try.prog Try.f8 false true false false) := by
  refine returnsInHanded_of_change_sized (C := Try.checked) own started (by kernel_rfl) Try.func8
    (ChangeSpec.witness6 (enc := enc) (C := Try.checked) false ⟨#[], #[.int .i64 0, .string ByteArray.empty, .slice none 0 0], []⟩ 8 (by kernel_rfl) (by kernel_rfl) (by kernel_rfl) (by kernel_rfl)) ?_
  intro W base args ds gs before hval0 hW hcnd hsz0 _
  have hsz : (DataW.weightsEach Try.prog (Try.f8.params.toList ++ Rows.muxWindowSpec.plain.varTypes Try.prog) (ds ++ gs)).all (· ≤ reachBytes) = true := hsz0
  have hval : ∀ (j : Nat) t v, Try.f8.params[j]? = some t → args[j]? = some v → Value.okWide Try.prog W .any base t v := hval0
  have hW' := hW
  obtain ⟨p, q, hA0, hV, rfl, hfz, hnd⟩ := hW
  have hA : DataW.TrodAll enc Try.prog W 0 (fun _ => true) true Try.f8.params.toList args.toList ds p := hA0
  rw [Try.params8] at hA hval hsz
  obtain ⟨v0, vs0, d0, ds0, p0, q0, hargs, rfl, rfl, t0, r0⟩ := trodAll_cons hA
  obtain ⟨v1, vs1, d1, ds1, p1, q1, rfl, rfl, rfl, t1, r1⟩ := trodAll_cons r0
  obtain ⟨v2, vs2, d2, ds2, p2, q2, rfl, rfl, rfl, t2, r2⟩ := trodAll_cons r1
  obtain ⟨rfl, rfl, rfl⟩ := trodAll_nil r2
  obtain rfl : args = #[v0, v1, v2] := by cases args; simp_all
  obtain ⟨rfl, rfl⟩ := trodVars_none hV
  have laid0 := Laid.start (G := cx.G) (w := W) (B := W.heap.size) rfl (Nat.le_refl _)
  have lt0 : ∀ x ∈ p0, x.block < W.heap.size := by obtain ⟨n, hn⟩ := t0; exact DataW.trod_lt n _ _ _ hn
  have tt0 := t0
  obtain ⟨z0, rfl, rfl, rfl, w0⟩ := open_int Try.underlying3 (hval 0 3 v0 rfl rfl) tt0
  have lt1 : ∀ x ∈ p1, x.block < W.heap.size := by obtain ⟨n, hn⟩ := t1; exact DataW.trod_lt n _ _ _ hn
  have tt1 := t1
  obtain ⟨y1, rfl, rfl, rfl, w1⟩ := open_string Try.underlying9 (hval 1 9 v1 rfl rfl) tt1
  have b1 : y1.size ≤ 140737488351232 := by have z := sized_string hsz (j := 1) (t := 9) rfl rfl; rw [Array.length_toList] at z; exact z
  obtain ⟨z1, rfl, zl1⟩ := str_of y1
  rw [← zl1] at b1
  have lt2 : ∀ x ∈ p2, x.block < W.heap.size := by obtain ⟨n, hn⟩ := t2; exact DataW.trod_lt n _ _ _ hn
  have tt2 := t2
  have ok2 : Cell.ok Try.prog W .any base 23 v2 := by have := hval 2 23 v2 rfl rfl; simpa only [Value.okWide, u_23, Cell.okWide] using this
  obtain ⟨E2, g2, va2, l2, le2, laid1, vr2, sl2, by2, oks2⟩ := laid0.slice (f := intE) (ok := (fun _ => True)) flat3 (by decide) u_23 (by rw [cells3]; decide) intE_inv intE_pl (fun x => by rw [cells3]; rfl) ok2 t2 (weightsEach_get hsz (i := 2) rfl rfl)
  rw [cells3] at sl2
  rw [bytes3] at by2
  obtain ⟨a2, m2, rfl, am2, sa2⟩ := sl2.split
  have hfw := window_w (mi := m2) (fun b => repN b 10) (fun b => repN_len b 10) (fun b h hb => rep_q b h hb) z0 z1 l2 (by omega) sa2 (by omega)
  refine (law_calls cx cx_mixed (cx_prim _) (f := 8) rfl hfw laid1 (LR.cons (.int _ _) (LR.cons (.string _) (LR.cons vr2 (LR.nil _))))).mono fun e W' ⟨he, bel⟩ => ?_
  subst he
  exact ⟨_, rfl, _, _, _, [], _, [], hW', trodAll_mk1 (shut_bool Try.underlying4 _), (trodAll_cons_mk (Below.trod laidOut (by kernel_rfl) (of_decide_eq_true (by kernel_rfl)) t0 bel lt0) (trodAll_cons_mk (Below.trod laidOut (by kernel_rfl) (of_decide_eq_true (by kernel_rfl)) t1 bel lt1) (trodAll_cons_mk (Below.trod laidOut (by kernel_rfl) (of_decide_eq_true (by kernel_rfl)) t2 bel lt2) trodAll_mk0))), rfl, bel.frame _, fun h => by cases h⟩
theorem over : Rows.muxWindowRow.holds Try.pinned (OpenSpec.ofChange Rows.muxWindowSpec) :=
  OpenClaim.holds_of_wide 8 Try.f8 rfl rfl rfl rfl rfl rfl rfl ⟨rfl, rfl, rfl, rfl, rfl⟩ rfl rfl rfl rfl rfl (by kernel_rfl) Try.func8 (by kernel_rfl)
    (of_decide_eq_true (by kernel_rfl)) (by unfold Func.isWrapper; first | (rw [if_pos (by decide +kernel)]; kernel_rfl) | (rw [if_neg (by decide +kernel)]; exact ⟨rfl, rfl⟩))
    (fun os started H enc _ => lifted os started H enc)
theorem proved : Rows.MuxWindowSaid := over
end Go.Proofs.Ytknhmkijmbcnhaa.muxWindow
namespace Go.Proofs.Ytknhmkijmbcnhaa
/-- The law, under a short name. -/
theorem muxWindow_holds : Rows.MuxWindowSaid := muxWindow.proved
#print axioms muxWindow_holds
end Go.Proofs.Ytknhmkijmbcnhaa
