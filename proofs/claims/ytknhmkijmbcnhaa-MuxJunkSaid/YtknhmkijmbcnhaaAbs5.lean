/- Abs5: the operations that ask nothing of memory, all of them. Conditions: none. -/
import Derived.Test.YtknhmkijmbcnhaaAbs4
set_option linter.unusedVariables false
set_option linter.unusedSimpArgs false
namespace Go.Abs
theorem VR.cells {E : Env} {v v' : Value} (h : VR E v v') : LR E v.cells.toList v'.cells.toList := by
  cases h with
  | agg h1 h3 => exact LR.of_arr h1 h3
  | bool b => exact LR.cons (.bool b) (LR.nil E)
  | int k n => exact LR.cons (.int k n) (LR.nil E)
  | float k n => exact LR.cons (.float k n) (LR.nil E)
  | complex k n m => exact LR.cons (.complex k n m) (LR.nil E)
  | string s => exact LR.cons (.string s) (LR.nil E)
  | nilptr => exact LR.cons .nilptr (LR.nil E)
  | ptr h => exact LR.cons (.ptr h) (LR.nil E)
  | nilsl => exact LR.cons .nilsl (LR.nil E)
  | sl h h1 h2 h3 => exact LR.cons (.sl h h1 h2 h3) (LR.nil E)
  | func fn h1 h2 h3 h4 => exact LR.cons (.func fn h1 h2 h3 h4) (LR.nil E)
  | nilFunc => exact LR.cons .nilFunc (LR.nil E)
  | nilIface => exact LR.cons .nilIface (LR.nil E)
  | iface t h => exact LR.cons (.iface t h) (LR.nil E)
  | tuple h1 h3 => exact LR.cons (.tuple h1 h3) (LR.nil E)
theorem VR.csize {E : Env} {v v' : Value} (h : VR E v v') : v'.cells.size = v.cells.size := by
  have := h.cells.1; simpa using this.symm
theorem VR.one {E : Env} {v v' : Value} (h : VR E v v') : oneCellA v' = oneCellA v := by cases h <;> rfl
theorem LR.set {E : Env} {xs ys : List Value} {v v' : Value} (i : Nat) (h : LR E xs ys) (hv : VR E v v') : LR E (xs.set i v) (ys.set i v') := by
  refine ⟨by simp [h.1], fun j u hu => ?_⟩
  rw [List.getElem?_set] at hu
  by_cases hij : i = j
  · subst hij
    rw [if_pos rfl] at hu
    split at hu
    · rename_i hi
      cases hu
      exact ⟨v', by rw [List.getElem?_set, if_pos rfl, if_pos (by rw [← h.1]; exact hi)], hv⟩
    · cases hu
  · rw [if_neg hij] at hu
    obtain ⟨u', h1, h2⟩ := h.2 j u hu
    exact ⟨u', by rw [List.getElem?_set, if_neg hij]; exact h1, h2⟩
theorem LR.getA {E : Env} {xs ys : Array Value} (h : LR E xs.toList ys.toList) {i : Nat} {v : Value} (hv : xs[i]? = some v) : ∃ v', ys[i]? = some v' ∧ VR E v v' := by
  obtain ⟨v', h1, h2⟩ := h.2 i v (by simpa using hv)
  exact ⟨v', by simpa using h1, h2⟩
theorem LR.size {E : Env} {xs ys : Array Value} (h : LR E xs.toList ys.toList) : ys.size = xs.size := by have := h.1; simpa using this.symm
/-- What a filler does with a part's cells. -/
theorem fold_put {E : Env} (off : Nat) : ∀ (us vs : List Value) (k : Nat) (cs ds : Array Value), LR E us vs → LR E cs.toList ds.toList →
    LR E ((us.zipIdx k).foldl (fun cs (x : Value × Nat) => cs.setIfInBounds (off + x.2) x.1) cs).toList ((vs.zipIdx k).foldl (fun cs (x : Value × Nat) => cs.setIfInBounds (off + x.2) x.1) ds).toList
  | [], vs, k, cs, ds, h, hc => by
    have : vs = [] := by have := h.1; cases vs with | nil => rfl | cons _ _ => simp at this
    subst this; simpa using hc
  | u :: us, vs, k, cs, ds, h, hc => by
    obtain ⟨v, vs, rfl, h1, h2⟩ := h.cases
    simp only [List.zipIdx_cons, List.foldl_cons]
    exact fold_put off us vs (k + 1) _ _ h2 (by simpa using hc.set (off + k) h1)
def PR (E : Env) : List (Nat × Value) → List (Nat × Value) → Prop
  | [], [] => True
  | (i, v) :: l, (j, u) :: m => i = j ∧ VR E v u ∧ PR E l m
  | _, _ => False
theorem fill_sim {E : Env} (place : Nat → Option (Nat × Nat)) : ∀ (ps qs : List (Nat × Value)) (cs ds rs : Array Value), PR E ps qs → LR E cs.toList ds.toList → Instr.fill place cs ps = some rs →
    ∃ rs', Instr.fill place ds qs = some rs' ∧ LR E rs.toList rs'.toList
  | [], [], cs, ds, rs, _, hc, h => by simp only [Instr.fill, Option.some.injEq] at h; subst h; exact ⟨ds, rfl, hc⟩
  | [], _ :: _, _, _, _, h, _, _ => absurd h (by simp [PR])
  | (i, v) :: ps, [], _, _, _, h, _, _ => absurd h (by simp [PR])
  | (i, v) :: ps, (j, u) :: qs, cs, ds, rs, h, hc, hf => by
    obtain ⟨rfl, h1, h2⟩ := h
    simp only [Instr.fill] at hf ⊢
    cases hp : place i with
    | none => simp [hp] at hf
    | some os =>
      obtain ⟨off, size⟩ := os
      simp only [hp] at hf ⊢
      rw [h1.csize, hc.size]
      split at hf
      · cases hf
      · rename_i hh
        rw [if_neg hh]
        refine fill_sim place ps qs _ _ rs h2 ?_ hf
        have := fold_put off v.cells.toList u.cells.toList 0 cs ds h1.cells hc
        have e : ∀ (xs c : Array Value), xs.zipIdx.foldl (fun cs (x : Value × Nat) => cs.setIfInBounds (off + x.2) x.1) c = xs.toList.zipIdx.foldl (fun cs (x : Value × Nat) => cs.setIfInBounds (off + x.2) x.1) c := by
          intro xs c; rw [← Array.foldl_toList, Array.toList_zipIdx]
        rw [← e, ← e] at this
        exact this
theorem run_mapM {P : Program} {α β : Type} (g : α → Sem β) (w : World) : ∀ (l : List α) (rs : List β), rs.length = l.length → (∀ (i : Nat) a r, l[i]? = some a → rs[i]? = some r → (g a).run P w = .ok r w) → (l.mapM g).run P w = .ok rs w
  | [], rs, h, _ => by
    cases rs with
    | nil => simp
    | cons _ _ => simp at h
  | a :: l, rs, h, hg => by
    cases rs with
    | nil => simp at h
    | cons r rs =>
      simp only [List.mapM_cons, Sem.run_bind, hg 0 a r rfl rfl, Result.andThen_ok, run_mapM g w l rs (by simpa using h) (fun i b s h1 h2 => hg (i + 1) b s (by simpa using h1) (by simpa using h2)), Sem.run_pure]
theorem run_places {P : Program} (w : World) : ∀ (l : List Field) (ps : List (Nat × Nat)), (l.mapM fun f => (sizeA P f.type).map fun n => (f.offset, n)) = some ps →
    ((l.mapM fun f => do pure (f.offset, ← sizeOf f.type)) : Sem (List (Nat × Nat))).run P w = .ok ps w
  | [], ps, h => by simp at h; subst h; simp
  | f :: l, ps, h => by
    simp only [List.mapM_cons, Option.bind_eq_bind, Option.bind_eq_some_iff, Option.map_eq_some_iff] at h
    obtain ⟨x, ⟨n, hn, rfl⟩, qs, hq, h3⟩ := h
    cases h3
    simp only [List.mapM_cons, Sem.run_bind, run_size hn, Result.andThen_ok, Sem.run_pure, run_places w l qs hq]
theorem run_zero {P : Program} {t : TypeId} {z : List Value} (h : zeroA P t = some z) (w : World) : ∃ v, (zeroValue t).run P w = .ok v w ∧ v.cells.toList = z ∧ z.all (plainV 3) = true := by
  unfold zeroA at h
  cases hi : P.info? t with
  | none => simp [hi] at h
  | some i =>
    simp only [hi] at h
    cases hz : i.zero with
    | none => simp [hz] at h
    | some v =>
      simp only [hz] at h
      split at h
      · rename_i hp
        cases h
        exact ⟨v, by simp [zeroValue, typeInfo, hi, hz], rfl, hp⟩
      · cases h
theorem build_sim {E : Env} {P : Program} {t : TypeId} {ps qs : List (Nat × Value)} {v : Value} (hp : PR E ps qs) (h : buildA P t ps = some v) (w : World) :
    ∃ v', (Instr.build t qs.toArray).run P w = .ok v' w ∧ VR E v v' := by
  unfold buildA at h
  split at h
  · rename_i fs z hu hz
    split at h
    · rename_i places hpl
      simp only [Option.map_eq_some_iff] at h
      obtain ⟨rs, h1, rfl⟩ := h
      obtain ⟨zv, hz1, hz2, hz3⟩ := run_zero hz w
      obtain ⟨rs', h2, h3⟩ := fill_sim (places[·]?) ps qs z.toArray zv.cells rs hp (by rw [hz2]; exact LR.plain E 3 z hz3) h1
      refine ⟨.agg rs', ?_, by simpa using VR.agg' h3⟩
      have hm : (fs.mapM fun f => do pure (f.offset, ← sizeOf f.type) : Sem (Array (Nat × Nat))).run P w = .ok places.toArray w := by
        rw [Array.mapM_eq_mapM_toList, Sem.run_map, run_places w _ _ hpl]; rfl
      simp only [Instr.build, Sem.run_bind, hz1, Result.andThen_ok, run_under hu, hm]
      have : (fun (x : Nat) => (places.toArray)[x]?) = (fun (x : Nat) => places[x]?) := by funext x; simp
      simp only [this, h2]
      rfl
    · cases h
  · rename_i n e z hu hz
    split at h
    · rename_i size hs
      simp only [Option.map_eq_some_iff] at h
      obtain ⟨rs, h1, rfl⟩ := h
      obtain ⟨zv, hz1, hz2, hz3⟩ := run_zero hz w
      obtain ⟨rs', h2, h3⟩ := fill_sim _ ps qs z.toArray zv.cells rs hp (by rw [hz2]; exact LR.plain E 3 z hz3) h1
      refine ⟨.agg rs', ?_, by simpa using VR.agg' h3⟩
      simp only [Instr.build, Sem.run_bind, hz1, Result.andThen_ok, run_under hu, run_size hs, h2]
      rfl
    · cases h
  · cases h
theorem evParts_sim {c : Ctx} {E : Env} {n : Nat} {fr : AFrame} {a : Act} (hf : FR E n fr a.tmps) (hg : GR c.G E) : ∀ {l : List (Nat × Operand)} {vs : List (Nat × Value)}, evParts c fr l = some vs → PR E vs (l.map fun (i, x) => (i, a.eval x))
  | [], vs, h => by simp only [evParts, Option.some.injEq] at h; subst h; simp [PR]
  | (i, x) :: l, vs, h => by
    simp only [evParts] at h
    split at h
    · rename_i v us h1 h2; cases h; exact ⟨rfl, evA_sim hf hg h1, evParts_sim hf hg h2⟩
    · cases h
theorem part_sim {E : Env} {P : Program} {t : TypeId} {cs ds : Array Value} {off : Nat} {v : Value} (hc : LR E cs.toList ds.toList) (h : partA P t cs off = some v) (w : World) :
    ∃ v', (part t ds off).run P w = .ok v' w ∧ VR E v v' := by
  unfold partA at h
  split at h
  · rename_i m ha hs
    cases h
    refine ⟨.agg (ds.extract off (off + m)), ?_, ?_⟩
    · simp only [part, Sem.run_bind, run_agg ha, Result.andThen_ok, if_true, run_size hs, Sem.run_pure]
    · have := VR.agg' ((hc.drop off).take m)
      have e1 : ∀ (xs : Array Value), ((xs.toList.drop off).take m).toArray = xs.extract off (off + m) := by
        intro xs; apply Array.ext'; simp [List.take_drop, Array.toList_extract]
      rw [e1, e1] at this
      exact this
  · rename_i m ha hs
    obtain ⟨v', h1, h2⟩ := hc.getA h
    refine ⟨v', ?_, h2⟩
    simp only [part, Sem.run_bind, run_agg ha, Result.andThen_ok, Bool.false_eq_true, if_false, h1, Sem.run_pure]
  · cases h
theorem indexAddr_sim {E : Env} {P : Program} {t : TypeId} {x i v x' i' : Value} (hx : VR E x x') (hi : VR E i i') (h : indexAddrA P t x i = some v) (w : World) :
    ∃ v', (Instr.indexAt t x' i').run P w = .ok v' w ∧ VR E v v' := by
  unfold indexAddrA at h
  split at h
  · rename_i n e b o kk k hu
    split at h
    · rename_i size hs
      split at h
      · rename_i hk
        cases h
        cases hi
        cases hx
        rename_i en he
        refine ⟨.pointer (some ⟨en.blk, en.base + (o + k.toNat * size), none⟩), ?_, .ptr he⟩
        simp only [Instr.indexAt, asIntOf, Sem.run_bind, Sem.run_pure, Result.andThen_ok, run_under hu, Instr.sureAddr]
        rw [if_pos (by simpa using hk)]
        simp only [Sem.run_bind, run_size hs, Result.andThen_ok, addr_add, Sem.run_pure, Nat.add_assoc]
      · cases h
    · cases h
  · rename_i e b o n m kk k hu
    split at h
    · rename_i size hs
      split at h
      · rename_i hk
        cases h
        cases hi
        obtain ⟨off, cap, en, rfl, he, hoff⟩ : ∃ off cap en, x' = .slice (some ⟨en.blk, off, none⟩) n cap ∧ E b = some en ∧ off = en.base + o := by
          cases hx with
          | sl he h1 h2 h3 => exact ⟨_, _, _, rfl, he, h3 (by omega)⟩
        refine ⟨.pointer (some ⟨en.blk, en.base + (o + k.toNat * size), none⟩), ?_, .ptr he⟩
        simp only [Instr.indexAt, asIntOf, Sem.run_bind, Sem.run_pure, Result.andThen_ok, run_under hu]
        rw [if_pos (by simpa using hk)]
        simp only [Sem.run_bind, run_size hs, Result.andThen_ok, addr_add, Sem.run_pure, hoff, Nat.add_assoc]
      · cases h
    · cases h
  · cases h
theorem index_sim {E : Env} {P : Program} {t : TypeId} {x i v x' i' : Value} (hx : VR E x x') (hi : VR E i i') (h : indexA P t x i = some v) (w : World) :
    ∃ v', (Instr.index t x' i').run P w = .ok v' w ∧ VR E v v' := by
  unfold indexA at h
  split at h
  · rename_i n e cs kk k hu
    split at h
    · rename_i size hs
      split at h
      · rename_i hk
        cases hi
        cases hx
        rename_i ds h1 h3
        obtain ⟨v', hv, hr⟩ := part_sim (LR.of_arr h1 h3) h w
        refine ⟨v', ?_, hr⟩
        simp only [Instr.index, asIntOf, Sem.run_bind, Sem.run_pure, Result.andThen_ok, run_under hu]
        rw [if_pos (by simpa using hk)]
        simp only [Sem.run_bind, run_size hs, Result.andThen_ok, hv]
      · cases h
    · cases h
  · rename_i s kk k hu
    split at h
    · rename_i hk
      simp only [Option.map_eq_some_iff] at h
      obtain ⟨b, hb, rfl⟩ := h
      cases hi
      cases hx
      refine ⟨_, ?_, .int _ _⟩
      have hb' : s[k.toNat]? = some b := by
        rw [Array.getElem?_eq_some_iff] at hb
        obtain ⟨h1, h2⟩ := hb
        have h1' : k.toNat < s.size := h1
        rw [getElem?_pos s k.toNat h1']
        exact congrArg some h2
      simp only [Instr.index, asIntOf, Sem.run_bind, Sem.run_pure, Result.andThen_ok, run_under hu]
      rw [if_pos hk, hb']
      rfl
    · cases h
  · cases h
theorem len_sim {E : Env} {P : Program} {t : TypeId} {x v x' : Value} {ts : Array TypeId} {ty : TypeId} (ht : ts[0]? = some t) (hx : VR E x x') (h : lenA P t x = some v) (w : World) :
    (Builtin.len_ ts ty #[x']).run P w = .ok v w ∧ VR E v v := by
  unfold lenA at h
  have ht' : ts.toList[0]? = some t := by simpa using ht
  split at h
  · rename_i s hu
    cases h; cases hx
    exact ⟨by simp [Builtin.len_, ht, run_under hu, goInt], .int _ _⟩
  · rename_i e a n m hu
    cases h
    cases hx with
    | nilsl => exact ⟨by simp [Builtin.len_, ht, run_under hu, goInt], .int _ _⟩
    | sl he h1 h2 h3 => exact ⟨by simp [Builtin.len_, ht, run_under hu, goInt], .int _ _⟩
  · rename_i n e hu
    cases h
    exact ⟨by simp [Builtin.len_, ht, run_under hu, goInt], .int _ _⟩
  · cases h
theorem foldMin_sim {E : Env} {P : Program} (w : World) : ∀ (l l' : List Value) (x x' v : Value), VR E x x' → LR E l l' → foldA min2A x l = some v → (l'.foldlM Builtin.min2 x').run P w = .ok v w ∧ VR E v v ∨ (l = [] ∧ v = x)
  | [], l', x, x', v, hx, hl, h => by simp only [foldA, Option.some.injEq] at h; exact .inr ⟨rfl, h.symm⟩
  | y :: l, l', x, x', v, hx, hl, h => by
    obtain ⟨y', l', rfl, hy, hl2⟩ := hl.cases
    simp only [foldA] at h
    split at h
    · rename_i z hz
      unfold min2A at hz
      split at hz
      · cases hz; cases hx; cases hy
        rename_i k a k' b
        refine .inl ?_
        have hm : (Builtin.min2 (.int k a) (.int k' b)).run P w = .ok (.int k (if b < a then b else a)) w := by simp [Builtin.min2]
        rcases foldMin_sim w l l' _ _ v (.int k _) hl2 h with h1 | ⟨rfl, rfl⟩
        · exact ⟨by simp only [List.foldlM_cons, Sem.run_bind, hm, Result.andThen_ok]; exact h1.1, h1.2⟩
        · have : l' = [] := by have := hl2.1; cases l' with | nil => rfl | cons _ _ => simp at this
          subst this
          exact ⟨by simp [hm], .int _ _⟩
      · cases hz
    · cases h
theorem foldMax_sim {E : Env} {P : Program} (w : World) : ∀ (l l' : List Value) (x x' v : Value), VR E x x' → LR E l l' → foldA max2A x l = some v → (l'.foldlM Builtin.max2 x').run P w = .ok v w ∧ VR E v v ∨ (l = [] ∧ v = x)
  | [], l', x, x', v, hx, hl, h => by simp only [foldA, Option.some.injEq] at h; exact .inr ⟨rfl, h.symm⟩
  | y :: l, l', x, x', v, hx, hl, h => by
    obtain ⟨y', l', rfl, hy, hl2⟩ := hl.cases
    simp only [foldA] at h
    split at h
    · rename_i z hz
      unfold max2A at hz
      split at hz
      · cases hz; cases hx; cases hy
        rename_i k a k' b
        refine .inl ?_
        have hm : (Builtin.max2 (.int k a) (.int k' b)).run P w = .ok (.int k (if b > a then b else a)) w := by simp [Builtin.max2]
        rcases foldMax_sim w l l' _ _ v (.int k _) hl2 h with h1 | ⟨rfl, rfl⟩
        · exact ⟨by simp only [List.foldlM_cons, Sem.run_bind, hm, Result.andThen_ok]; exact h1.1, h1.2⟩
        · have : l' = [] := by have := hl2.1; cases l' with | nil => rfl | cons _ _ => simp at this
          subst this
          exact ⟨by simp [hm], .int _ _⟩
      · cases hz
    · cases h
theorem bin_sim {E : Env} {P : Program} {op : BinOp} {t : TypeId} {ox oy : Operand} {x y x' y' v : Value} (hx : VR E x x') (hy : VR E y y') (h : binA P op t (isConstA ox) (isConstA oy) x y = some v) (w : World) :
    (do eqGuard op t ox oy x' y'; binOp op t x' y' : Sem Value).run P w = .ok v w ∧ VR E v v := by
  unfold binA at h
  split at h
  · cases hx; cases hy
    simp only [Sem.run_bind, eqGuard_int, Result.andThen_ok]
    split at h
    · exact ⟨shift_run h (.inl rfl) w, shift_vr h⟩
    · exact ⟨shift_run h (.inr rfl) w, shift_vr h⟩
    · rename_i h1 h2
      split at h
      · rename_i hk; subst hk
        exact ⟨intBin_run h h1 h2 w, intBin_vr h⟩
      · cases h
  · cases hx; cases hy
    simp only [Sem.run_bind, eqGuard_str, Result.andThen_ok]
    exact ⟨str_run h w, strBin_vr h⟩
  · cases hx; cases hy
    simp only [Sem.run_bind, eqGuard_bool, Result.andThen_ok]
    split at h
    · rename_i ht
      refine ⟨bool_run ht h w, ?_⟩
      split at h <;> first | (cases h; exact .bool _) | cases h
    · cases h
  · rename_i a b
    split at h
    · rename_i hp
      simp only [Bool.and_eq_true] at hp
      rw [VR.plain_eq 4 hp.1 hx, VR.plain_eq 4 hp.2 hy]
      split at h
      case h_2 => cases h
      rename_i u hqr
      split at h
      case isFalse => cases h
      rename_i hpl
      cases h
      have hq := qrun_sound hqr w
      have hg : eqGuard op t ox oy (.agg a) (.agg b) = eqGuard op t (.tmp 0) (.tmp 0) (.agg a) (.agg b) := by cases op <;> rfl
      rw [hg]
      exact ⟨hq, VR.plain E 1 _ hpl⟩
    · cases h
  · exact eqNil_sim hx hy h w
end Go.Abs
