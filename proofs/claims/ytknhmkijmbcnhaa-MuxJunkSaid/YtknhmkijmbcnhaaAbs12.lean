/- Abs12: append and copy. Conditions: none. -/
import Derived.Test.YtknhmkijmbcnhaaAbs11
set_option linter.unusedVariables false
set_option linter.unusedSimpArgs false
namespace Go.Abs
theorem putCells_get : ∀ (vs l : List Value) (o i : Nat), (putCells l o vs)[i]? = if o ≤ i ∧ i < o + vs.length ∧ i < l.length then vs[i - o]? else l[i]?
  | [], l, o, i => by
    simp only [putCells, List.length_nil, Nat.add_zero]
    rw [if_neg (by omega)]
  | v :: vs, l, o, i => by
    simp only [putCells]
    rw [putCells_get vs, List.length_set, List.length_cons, List.getElem?_set]
    by_cases h1 : i = o
    · subst h1
      rw [if_neg (by omega), if_pos rfl]
      by_cases h2 : i < l.length
      · rw [if_pos h2, if_pos ⟨Nat.le_refl _, by omega, h2⟩]; simp
      · rw [if_neg h2, if_neg (by omega), List.getElem?_eq_none (by omega)]
    · have e1 : (if o = i then if o < l.length then some v else none else l[i]?) = l[i]? := if_neg (fun hh => h1 hh.symm)
      rw [e1]
      by_cases h2 : o + 1 ≤ i ∧ i < o + 1 + vs.length ∧ i < l.length
      · rw [if_pos h2, if_pos (by omega)]
        have : i - o = (i - (o + 1)) + 1 := by omega
        rw [this]; simp
      · rw [if_neg h2, if_neg (by omega)]
section
variable {G : Nat → Option Nat} {B : Nat} {E : Env} {h h' : AHeap} {w : World} {P : Program}
theorem more_sim (s : Sim G B E h w) {size m : Nat} {x x' : Value} {new : List Value} (hx : VR E x x') (hm : moreA h size x = some (new, m)) :
    ∃ new', LR E new new' ∧ new.length = m * size ∧ (∀ w', (Builtin.lenOf x').run P w' = .ok m w') ∧ ∀ k, k ≤ m → ∀ w' : World, w'.heap = w.heap → (Builtin.firstCells size k x').run P w' = .ok (new'.take (k * size)).toArray w' := by
  unfold moreA at hm
  split at hm
  · rename_i st
    split at hm
    · rename_i hs
      subst hs
      cases hm
      cases hx
      refine ⟨bytesV st, LR.plain E 1 _ ?_, by simp only [bytesV, List.length_map, Array.length_toList, Nat.mul_one]; rfl, fun _ => rfl, fun k hk w' _ => ?_⟩
      · rw [List.all_eq_true]
        intro v hv
        simp only [bytesV, List.mem_map] at hv
        obtain ⟨b, _, rfl⟩ := hv
        rfl
      · show Result.ok _ w' = _
        congr 1
        apply Array.ext'
        simp only [Array.toList_map, bytesV, Nat.mul_one]
        rw [← List.map_take]
        congr 1
        rw [ByteArray.data_extract, Array.toList_extract]
        rfl
    · cases hm
  · rename_i a n m'
    simp only [Option.map_eq_some_iff] at hm
    obtain ⟨l, hl, hh⟩ := hm
    cases hh
    obtain ⟨l', h1, h2, h3, a', c', rfl, _⟩ := sliceCells_sim (P := P) s hx hl rfl
    exact ⟨l', h1, h2, fun _ => rfl, h3⟩
  · cases hm
theorem VR.mono_slot {E' : Env} {l l' : List Value} {base : Nat} (hE : E.le E') (hs : Shift E base l l') : Shift E' base l l' := fun j v hj => let ⟨v', p, q⟩ := hs j v hj; ⟨v', p, q.mono hE⟩
/-- append, where there is room. -/
theorem run_append_fit {w' : World} {t u e : TypeId} {size m n cap : Nat} {d : TypeDesc} {a : Option Addr} {ts : Array TypeId} {ty : TypeId} {x' : Value} (ht : ts[0]? = some t) (hu : ts[1]? = some u) (hud : P.underlying u = some d) (hnot : ∀ k, d ≠ .int k)
    (hte : P.underlying t = some (.slice e)) (hsz : sizeA P e = some size) (hlen : ∀ w, (Builtin.lenOf x').run P w = .ok m w) (hroom : n + m ≤ cap) {c : Array Value} (hfc : (Builtin.firstCells size m x').run P w = .ok c w)
    (hst : ∀ ad, a = some ad → (storeCells (ad.add (n * size)) c.toList).run P w = .ok () w') (hn : a = none → w' = w) :
    (Builtin.append_ ts ty #[.slice a n cap, x']).run P w = .ok (.slice a (n + m) cap) w' := by
  cases a with
  | none =>
    have := hn rfl
    subst this
    simp [Builtin.append_, ht, hu, run_under hte, run_size hsz, run_under hud, hlen, hroom, hfc]
  | some ad =>
    have := hst ad rfl
    simp [Builtin.append_, ht, hu, run_under hte, run_size hsz, run_under hud, hlen, hroom, hfc, this]
/-- append, where a new row is made. -/
theorem run_append_new {t u e : TypeId} {m n cap : Nat} {i : TypeInfo} {d : TypeDesc} {a : Option Addr} {ts : Array TypeId} {ty : TypeId} {x' : Value} (ht : ts[0]? = some t) (hu : ts[1]? = some u) (hud : P.underlying u = some d) (hnot : ∀ k, d ≠ .int k)
    (hte : P.underlying t = some (.slice e)) (hi : P.info? e = some i) {z : Value} (hzv : i.zero = some z) (hlen : ∀ w, (Builtin.lenOf x').run P w = .ok m w) (hroom : ¬ n + m ≤ cap) (h63 : n + m ≤ 9223372036854775807) (hbytes : (n + m) * i.bytes ≤ 140737488355328) {c o : Array Value}
    (hfc : (Builtin.firstCells i.size m x').run P w.drew = .ok c w.drew) (hfo : (Builtin.firstCells i.size n (.slice a n cap)).run P w.drew = .ok o w.drew) :
    (Builtin.append_ ts ty #[.slice a n cap, x']).run P w = .ok (.slice (some ⟨w.heap.size, 0, none⟩) (n + m) ((Question.appendCap (n + m) cap e).cut (w.tape w.drawn (.appendCap (n + m) cap e))))
      (w.drew.alloc (.cells (o ++ c ++ Builtin.zeroCells z.cells ((Question.appendCap (n + m) cap e).cut (w.tape w.drawn (.appendCap (n + m) cap e)) - (n + m))) e)) := by
  have hg := growslice_fits (need := n + m) (old := cap) (by omega) hbytes
  have h1 : ¬ (9223372036854775807 < (n : Int) + m) := by omega
  have h2 : ¬ (281474976710656 < Builtin.nextslicecap (n + m) cap * i.bytes) := by omega
  have hsz : sizeA P e = some i.size := by simp [sizeA, hi]
  simp [Builtin.append_, ht, hu, run_under hte, run_size hsz, run_under hud, hlen, hroom, typeInfo, hi, h1, h2, IntKind.max, IntKind.signed, IntKind.bits, Question.forced, hfc, hfo, zeroValue, hzv, run_newRow]
theorem append_sim (s : Sim G B E h w) (hfree : h.length < h'.length → E h.length = none) {t u : TypeId} {d : TypeDesc} {ts : Array TypeId} {ty : TypeId} {x x' y y' v : Value} (ht : ts[0]? = some t) (hu : ts[1]? = some u) (hud : P.underlying u = some d) (hnot : ∀ k, d ≠ .int k)
    (hx : VR E x x') (hy : VR E y y') (ha : appendA P t x y h = some (v, h')) : OpR G B E h h' P w v (Builtin.append_ ts ty #[x', y']) := by
  unfold appendA at ha
  split at ha
  case h_2 => cases ha
  rename_i e hte
  split at ha
  case h_2 => cases ha
  rename_i size z by_ hsz hz hby
  split at ha
  case isFalse => cases ha
  rename_i hzl
  obtain ⟨hzl, hpos⟩ := hzl
  split at ha
  case h_2 => cases ha
  rename_i new m hm
  obtain ⟨new', hn1, hn2, hn3, hn4⟩ := more_sim (P := P) s hy hm
  have hnl : new'.length = m * size := by rw [← hn1.1]; exact hn2
  have hfull : new'.take (m * size) = new' := List.take_of_length_le (by omega)
  obtain ⟨info, hi, hbi⟩ : ∃ i, P.info? e = some i ∧ i.bytes = by_ := by simpa [bytesA] using hby
  have hisz : info.size = size := by simp [sizeA, hi] at hsz; exact hsz
  obtain ⟨zv, hzv, hzc, hzp⟩ : ∃ zv, info.zero = some zv ∧ zv.cells.toList = z ∧ True := by
    unfold zeroA at hz
    simp only [hi] at hz
    split at hz
    · rename_i v hv
      split at hz
      · cases hz; exact ⟨v, hv, rfl, trivial⟩
      · cases hz
    · cases hz
  have hzsz : zv.cells.size = size := by rw [← Array.length_toList, hzc]; exact hzl
  -- the concrete operand is a slice
  by_cases hm0 : m = 0
  · rw [if_pos hm0] at ha
    subst hm0
    have hnew0 : new' = [] := List.eq_nil_of_length_eq_zero (by simpa using hnl)
    subst hnew0
    have hfc : (Builtin.firstCells size 0 y').run P w = .ok #[] w := by
      have := hn4 0 (Nat.le_refl 0) w rfl; simpa using this
    split at ha
    · cases ha; cases hx
      refine ⟨E, _, w, run_append_fit (w' := w) ht hu hud hnot hte hsz hn3 (Nat.le_refl 0) hfc (by simp) (fun _ => rfl), Post.refl s, .nilsl⟩
    · cases ha
      have hx0 := hx
      rename_i b o n mm
      obtain ⟨off, cap, en, rfl, he, g1, g2, g3⟩ : ∃ off cap en, x' = .slice (some ⟨en.blk, off, none⟩) n cap ∧ E b = some en ∧ n ≤ cap ∧ (cap ≠ 0 → off + cap * en.esz ≤ en.csz) ∧ (n ≠ 0 → off = en.base + o) := by
        cases hx with
        | sl he h1 h2 h3 => exact ⟨_, _, _, rfl, he, h1, h2, h3⟩
      refine ⟨E, _, w, run_append_fit (w' := w) ht hu hud hnot hte hsz hn3 (by omega) hfc (fun ad _ => rfl) (by simp), Post.refl s, hx0⟩
    · cases ha
  · rw [if_neg hm0] at ha
    have hcut : ∀ (n cap : Nat), n + m ≤ (Question.appendCap (n + m) cap e).cut (w.tape w.drawn (.appendCap (n + m) cap e)) := fun n cap => by simp only [Question.cut]; omega
    -- a new row
    have grown : ∀ (hh : AHeap) (_ : Sim G B E hh w) (_ : E hh.length = none) (n cap : Nat) (a : Option Addr) (old old' : List Value), LR E old old' → old.length = n * size → ¬ n + m ≤ cap → n + m ≤ 9223372036854775807 → (n + m) * by_ ≤ 140737488355328 →
        (Builtin.firstCells size n (.slice a n cap)).run P w.drew = .ok old'.toArray w.drew →
        OpR G B E hh (hh ++ [some (.cells ⟨old ++ new, size, false⟩)]) P w (.slice (some ⟨hh.length, 0, none⟩) (n + m) (n + m)) (Builtin.append_ ts ty #[.slice a n cap, y']) := by
      intro hh hs hf n cap a old old' ho1 ho2 hroom h63 hbytes hfo
      have hfc := hn4 m (Nat.le_refl m) w.drew rfl
      rw [hfull] at hfc
      have hr := run_append_new (P := P) (w := w) (ty := ty) ht hu hud hnot hte hi hzv hn3 hroom h63 (by rw [hbi]; exact hbytes) (by rw [hisz]; exact hfc) (by rw [hisz]; exact hfo)
      have hol : old'.length = n * size := by rw [← ho1.1]; exact ho2
      have hasz : (old'.toArray ++ new'.toArray ++ Builtin.zeroCells zv.cells ((Question.appendCap (n + m) cap e).cut (w.tape w.drawn (.appendCap (n + m) cap e)) - (n + m))).size = (Question.appendCap (n + m) cap e).cut (w.tape w.drawn (.appendCap (n + m) cap e)) * size := by
        simp only [Array.size_append, List.size_toArray, hol, hnl, Builtin.zeroCells, Array.size_map, Array.size_range, hzsz, ← Nat.add_mul]
        congr 1
        have := hcut n cap
        omega
      have hpost := row_sim (el := e) (esz := size) hs hf (cells := old ++ new) (c := old'.toArray ++ new'.toArray ++ Builtin.zeroCells zv.cells ((Question.appendCap (n + m) cap e).cut (w.tape w.drawn (.appendCap (n + m) cap e)) - (n + m))) (fun j u hj => by
        obtain ⟨u', p, q⟩ := (ho1.append hn1).2 j u hj
        refine ⟨u', ?_, q⟩
        have hlt : j < (old' ++ new').length := (List.getElem?_eq_some_iff.1 p).1
        rw [Array.getElem?_append_left (by simpa using hlt)]
        simpa using p) (d0 := w.drew) rfl rfl rfl rfl
      exact ⟨_, _, _, hr, hpost, new_sl (hcut n cap) (by rw [hasz]; exact Nat.le_refl _)⟩
    split at ha
    · -- nil
      split at ha
      case isFalse => cases ha
      rename_i hc
      cases ha; cases hx
      have hf : E h.length = none := hfree (by simp [newA])
      have := grown h s hf 0 0 none [] [] (LR.nil E) (by simp) (by omega) (by omega) (by simpa using hc.1) (by simp [Builtin.firstCells])
      simpa [newA] using this
    · rename_i b o n mm
      split at ha
      case h_2 => cases ha
      rename_i k hb
      split at ha
      case isFalse => cases ha
      rename_i hc
      obtain ⟨hro, hes, hbytes, h63, hall⟩ := hc
      split at ha
      case h_2 => cases ha
      rename_i old hold
      cases ha
      have hf : E h.length = none := hfree (by simp [newA])
      obtain ⟨off, cap, en, rfl, he, g1, g2, g3⟩ : ∃ off cap en, x' = .slice (some ⟨en.blk, off, none⟩) n cap ∧ E b = some en ∧ n ≤ cap ∧ (cap ≠ 0 → off + cap * en.esz ≤ en.csz) ∧ (n ≠ 0 → off = en.base + o) := by
        cases hx with
        | sl he h1 h2 h3 => exact ⟨_, _, _, rfl, he, h1, h2, h3⟩
      have hor := s.obj b _ en (blkA_some hb) he
      obtain ⟨old', ho1, ho2, ho3, ho4⟩ := cells_at hor hold
      have hcell : ∀ (w' : World), w'.heap = w.heap → ∀ (j : Nat) u, old'[j]? = some u → w'.cell? ⟨en.blk, off + j, none⟩ = some u := fun w' hw j u hj => by
        have hj' : j < n * size := by have := (List.getElem?_eq_some_iff.1 hj).1; omega
        have hn0 : n ≠ 0 := by intro h0; rw [h0] at hj'; simp at hj'
        rw [g3 hn0]
        have := ho4 j u hj
        simpa [World.cell?, hw] using this
      by_cases hroom : n + m ≤ cap
      · -- in place
        obtain ⟨c, el, fz, a1, a2, a3, a4, a5⟩ := hor
        have hes' : en.esz = size := by rw [← a3]; exact hes
        have hfit : off + n * size + 0 + new'.length ≤ c.size := by
          have hmul : (n + m) * size ≤ cap * size := Nat.mul_le_mul_right _ hroom
          rw [Nat.add_mul] at hmul
          have g2' := g2 (by omega)
          rw [hes'] at g2'
          omega
        have hone : new'.all oneCellA = true := by
          rw [hn1.allOne]; exact hall
        obtain ⟨w', r1, ⟨dd, r2, r3⟩, r4, r5, r6, r7, r8⟩ := run_stores P en.blk new' (off + n * size) 0 w c el fz a1 (.inr hfit) (fzOld (a5 hro)) hone
        have hfc := hn4 m (Nat.le_refl m) w rfl
        rw [hfull] at hfc
        have hrun := run_append_fit (P := P) (w := w) (w' := w') (ty := ty) (a := some ⟨en.blk, off, none⟩) (n := n) ht hu hud hnot hte hsz hn3 hroom hfc (fun ad hh => by cases hh; rw [addr_add]; exact r1) (by simp)
        have hdsz : dd.size = c.size := by rw [← Array.length_toList, r3, putCells_length]; simp
        have hle := Env.put_le (n := h.length) (⟨en.blk, off, en.csz, en.esz⟩ : Ent) hf
        have hshift : Shift E off (old ++ new) dd.toList := by
          intro j u hj
          rw [r3]
          rw [List.getElem?_append] at hj
          split at hj
          · rename_i hlt
            obtain ⟨u', p, q⟩ := ho1.2 j u hj
            refine ⟨u', ?_, q⟩
            rw [putCells_get, if_neg (by omega)]
            have := hcell w rfl j u' p
            simpa [World.cell?, a1] using this
          · rename_i hge
            obtain ⟨u', p, q⟩ := hn1.2 _ u hj
            refine ⟨u', ?_, q⟩
            have hlt := (List.getElem?_eq_some_iff.1 p).1
            rw [putCells_get, if_pos (by simp; omega)]
            rw [← p]
            congr 1
            omega
        have hpost : Post G B E (E.put h.length ⟨en.blk, off, en.csz, en.esz⟩) h (h.set b none ++ [some (.cells ⟨old ++ new, size, false⟩)]) w w' := by
          refine post_move s hf (blkA_some hb) he (by simp [wrO, hro]) rfl r4 r5 r6 r7 r8 ?_ rfl
          refine ⟨dd, el, fz, r2, by rw [hdsz]; exact a2, hes'.symm, fun j u hj => ?_, fun _ => by have := a5 hro; omega⟩
          obtain ⟨u', p, q⟩ := hshift j u hj
          exact ⟨u', by simpa using p, q.mono hle⟩
        refine ⟨E.put h.length ⟨en.blk, off, en.csz, en.esz⟩, _, w', hrun, ?_, ?_⟩
        · simpa [newA] using hpost
        · have := VR.sl (E := E.put h.length ⟨en.blk, off, en.csz, en.esz⟩) (b := h.length) (o := 0) (n := n + m) (m := n + m) (off := off) (cap := cap) (e := ⟨en.blk, off, en.csz, en.esz⟩) (by simp [Env.put]) hroom g2 (fun _ => by simp)
          simpa [newA] using this
      · -- a new row
        have hkill := post_kill s b
        have hfo : (Builtin.firstCells size n (.slice (some ⟨en.blk, off, none⟩) n cap)).run P w.drew = .ok old'.toArray w.drew := by
          have hr := run_loadCells_list (P := P) w.drew ⟨en.blk, off, none⟩ old' (fun j u hj => by rw [addr_add]; exact hcell w.drew rfl j u hj)
          rw [ho2] at hr
          exact hr
        obtain ⟨E', v', w', q1, q2, q3⟩ := grown (h.set b none) hkill.sim (by simpa using hf) n cap _ old old' ho1 (by omega) hroom h63 hbytes hfo
        refine ⟨E', v', w', q1, ?_, ?_⟩
        · have := hkill.trans q2
          simpa [newA] using this
        · simpa [newA] using q3
    · cases ha
theorem copy_sim (s : Sim G B E h w) {t : TypeId} {ts : Array TypeId} {ty : TypeId} {x x' y y' v : Value} (ht : ts[0]? = some t)
    (hx : VR E x x') (hy : VR E y y') (ha : copyA P t x y h = some (v, h')) : OpR G B E h h' P w v (Builtin.copy_ ts ty #[x', y']) := by
  unfold copyA at ha
  split at ha
  case h_2 => cases ha
  rename_i e hte
  split at ha
  case h_2 => cases ha
  rename_i size hsz
  split at ha
  case isFalse => cases ha
  split at ha
  · rename_i mo hm
    obtain ⟨new, m⟩ := mo
    obtain ⟨new', hn1, hn2, hn3, hn4⟩ := more_sim (P := P) s hy hm
    cases ha; cases hx
    have h0 := hn4 0 (Nat.zero_le _) w rfl
    refine ⟨E, _, w, ?_, Post.refl s, .int _ _⟩
    simp [Builtin.copy_, ht, run_under hte, run_size hsz, hn3] at h0 ⊢
    simp [h0, goInt]
  · rename_i new m b o n mm hm
    obtain ⟨new', hn1, hn2, hn3, hn4⟩ := more_sim (P := P) s hy hm
    simp only [Option.map_eq_some_iff] at ha
    obtain ⟨h2, hw, hh⟩ := ha
    cases hh
    obtain ⟨off, cap, en, rfl, he, g1, g2, g3⟩ : ∃ off cap en, x' = .slice (some ⟨en.blk, off, none⟩) n cap ∧ E b = some en ∧ n ≤ cap ∧ (cap ≠ 0 → off + cap * en.esz ≤ en.csz) ∧ (n ≠ 0 → off = en.base + o) := by
      cases hx with
      | sl he h1 h2 h3 => exact ⟨_, _, _, rfl, he, h1, h2, h3⟩
    obtain ⟨w', r1, r2⟩ := write_sim (P := P) s he (hn1.take (min m n * size)) hw
    have hfc := hn4 (min m n) (Nat.min_le_left _ _) w rfl
    have hst : (storeCells ⟨en.blk, off, none⟩ (new'.take (min m n * size))).run P w = .ok () w' := by
      by_cases hn0 : n = 0
      · subst hn0
        simp only [Nat.min_zero, Nat.zero_mul, List.take_zero] at r1 ⊢
        exact r1
      · rw [g3 hn0]; exact r1
    refine ⟨E, _, w', ?_, r2, .int _ _⟩
    have hmin : Nat.min m n = min m n := rfl
    simp [Builtin.copy_, ht, run_under hte, run_size hsz, hn3, hmin, hfc, hst, goInt]
  · cases ha
end
end Go.Abs
