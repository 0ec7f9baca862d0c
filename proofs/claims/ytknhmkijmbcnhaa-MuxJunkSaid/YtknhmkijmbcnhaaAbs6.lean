/- Abs6: an operation that asks nothing of memory, as the model carries it out. Conditions: none. -/
import Derived.Test.YtknhmkijmbcnhaaAbs5
set_option linter.unusedVariables false
set_option linter.unusedSimpArgs false
namespace Go.Abs
theorem run_v {P : Program} {s : Sem Value} {v : Value} {w w' : World} (h : s.run P w = .ok v w') : ((do pure (.value (← s))) : Sem Next).run P w = .ok (.value v) w' := by
  simp only [Sem.run_bind, h, Result.andThen_ok, Sem.run_pure]
theorem arr_one {E : Env} {xs : Array Value} {x : Value} (h : LR E [x] xs.toList) : ∃ x', xs = #[x'] ∧ VR E x x' := by
  obtain ⟨x', zs, h1, h2, h3⟩ := h.cases
  have : zs = [] := by have := h3.1; cases zs with | nil => rfl | cons _ _ => simp at this
  subst this
  exact ⟨x', by apply Array.ext'; simpa using h1, h2⟩
theorem arr_two {E : Env} {xs : Array Value} {x y : Value} (h : LR E [x, y] xs.toList) : ∃ x' y', xs = #[x', y'] ∧ VR E x x' ∧ VR E y y' := by
  obtain ⟨x', zs, h1, h2, h3⟩ := h.cases
  obtain ⟨y', zs, rfl, h4, h5⟩ := h3.cases
  have : zs = [] := by have := h5.1; cases zs with | nil => rfl | cons _ _ => simp at this
  subst this
  exact ⟨x', y', by apply Array.ext'; simpa using h1, h2, h4⟩
section
variable {c : Ctx} {E : Env} {n : Nat} {fr : AFrame} {a : Act}
theorem evL_arr (hf : FR E n fr a.tmps) (hg : GR c.G E) {xs : Array Operand} {vs : List Value} (h : evL c fr xs.toList = some vs) : LR E vs (xs.map a.eval).toList := by
  rw [Array.toList_map]; exact evL_sim hf hg h
theorem pur_sim (hf : FR E n fr a.tmps) (hg : GR c.G E) {o : Oper} {v : Value} (h : purA c fr o.op = some v) (w : World) :
    ∃ v', (execOp a.eval o).run c.P w = .ok (.value v') w ∧ VR E v v' := by
  obtain ⟨dst, op, ty, pos, after, guard⟩ := o
  simp only at h
  cases op with
  | move x => exact ⟨_, rfl, evA_sim hf hg h⟩
  | assign x => exact ⟨_, rfl, evA_sim hf hg h⟩
  | pick x p q =>
    simp only [purA] at h
    split at h
    · rename_i hx
      have hx' := evA_sim hf hg hx
      refine ⟨_, ?_, evA_sim hf hg h⟩
      simp only [execOp]
      generalize a.eval x = u at hx'
      cases hx'
      simp [asBool]
    · rename_i hx
      have hx' := evA_sim hf hg hx
      refine ⟨_, ?_, evA_sim hf hg h⟩
      simp only [execOp]
      generalize a.eval x = u at hx'
      cases hx'
      simp [asBool]
    · cases h
  | nilCheck x =>
    simp only [purA] at h
    split at h
    · rename_i hx
      cases h
      have hx' := evA_sim hf hg hx
      refine ⟨a.eval x, ?_, hx'⟩
      simp only [execOp]
      generalize a.eval x = u at hx'
      cases hx'
      rfl
    · cases h
  | binOp op t x y yt =>
    simp only [purA] at h
    split at h
    · rename_i hx hy
      obtain ⟨h1, h2⟩ := bin_sim (evA_sim hf hg hx) (evA_sim hf hg hy) h w
      exact ⟨v, by simp only [execOp]; exact run_v h1, h2⟩
    · cases h
  | unOp op t x =>
    simp only [purA] at h
    split at h
    · rename_i hx
      have hx' := evA_sim hf hg hx
      unfold unA at h
      simp only [execOp]
      generalize a.eval x = u at hx'
      split at h
      · cases h; cases hx'; exact ⟨_, run_v rfl, .int _ _⟩
      · cases h; cases hx'; exact ⟨_, run_v rfl, .bool _⟩
      · cases hx'
        rename_i k m
        refine ⟨v, run_v ?_, intBin_vr h⟩
        simp only [intBinA, Option.some.injEq] at h
        subst h
        rfl
      · cases h
    · cases h
  | makeInterface t x =>
    simp only [purA] at h
    split at h
    · cases h
    · rename_i hd hx hu
      cases h
      refine ⟨.iface t (a.eval x), ?_, .iface t (evA_sim hf hg hx)⟩
      simp only [execOp]
      refine run_v ?_
      simp only [Instr.makeInterface, Sem.run_bind, run_under hu, Result.andThen_ok]
      rfl
    · cases h
  | makeFunc fn first captured =>
    simp only [purA] at h
    split at h
    · rename_i hx hy
      cases h
      have h1 := VR.func' fn (evL_arr hf hg hx) (evL_arr hf hg hy)
      exact ⟨_, by simp only [execOp]; exact run_v rfl, h1⟩
    · cases h
  | fieldAddr s x f =>
    simp only [purA] at h
    split at h
    · rename_i b o off t hx hfld
      split at h
      · cases h
      · rename_i hs
        cases h
        have hx' := evA_sim hf hg hx
        simp only [execOp]
        generalize a.eval x = u at hx'
        cases hx'
        rename_i en he
        refine ⟨.pointer (some ⟨en.blk, en.base + (o + off), none⟩), run_v ?_, .ptr he⟩
        unfold fieldA at hfld
        split at hfld
        · rename_i fs hu
          split at hfld
          · rename_i fd hfd
            cases hfld
            cases hsz : sizeA c.P fd.type with
            | none => simp [hsz] at hs
            | some m =>
              simp only [hsz, Option.getD_some] at hs
              simp only [Instr.fieldAt, Sem.run_bind, run_under hu, Result.andThen_ok, hfd, Instr.sureAddr, Sem.run_pure, fieldPlace, run_size hsz, if_neg hs, addr_add, Nat.add_assoc]
          · cases hfld
        · cases hfld
    · cases h
  | field t x f =>
    simp only [purA] at h
    split at h
    · rename_i cs off u hx hfld
      have hx' := evA_sim hf hg hx
      simp only [execOp]
      generalize a.eval x = z at hx'
      cases hx'
      rename_i ds h1 h3
      obtain ⟨v', hv, hr⟩ := part_sim (LR.of_arr h1 h3) h w
      refine ⟨v', run_v ?_, hr⟩
      unfold fieldA at hfld
      split at hfld
      · rename_i fs hu
        split at hfld
        · rename_i fd hfd
          cases hfld
          simp only [Instr.field, Sem.run_bind, run_under hu, Result.andThen_ok, hfd, asAgg, Sem.run_pure, hv]
        · cases hfld
      · cases hfld
    · cases h
  | indexAddr t x i =>
    simp only [purA] at h
    split at h
    · rename_i hx hi
      obtain ⟨v', hv, hr⟩ := indexAddr_sim (evA_sim hf hg hx) (evA_sim hf hg hi) h w
      exact ⟨v', by simp only [execOp]; exact run_v hv, hr⟩
    · cases h
  | index t x i =>
    simp only [purA] at h
    split at h
    · rename_i hx hi
      obtain ⟨v', hv, hr⟩ := index_sim (evA_sim hf hg hx) (evA_sim hf hg hi) h w
      exact ⟨v', by simp only [execOp]; exact run_v hv, hr⟩
    · cases h
  | extract x i =>
    simp only [purA] at h
    split at h
    · rename_i vs hx
      have hx' := evA_sim hf hg hx
      simp only [execOp]
      generalize a.eval x = z at hx'
      cases hx'
      rename_i ds h1 h3
      obtain ⟨v', h2, h4⟩ := (LR.of_arr h1 h3).getA h
      exact ⟨v', run_v (by simp [Instr.extract, h2]), h4⟩
    · cases h
  | build t parts =>
    simp only [purA] at h
    split at h
    · rename_i ps hp
      obtain ⟨v', hv, hr⟩ := build_sim (evParts_sim hf hg hp) h w
      refine ⟨v', ?_, hr⟩
      simp only [execOp]
      refine run_v ?_
      have e : (List.map (fun x => match x with | (i, x) => (i, a.eval x)) parts.toList).toArray = parts.map (fun x => match x with | (i, x) => (i, a.eval x)) := by
        apply Array.ext'; simp
      rw [e] at hv
      exact hv
    · cases h
  | call cl =>
    obtain ⟨callee, args, argTypes⟩ := cl
    cases callee with
    | value f => simp [purA] at h
    | invoke r m => simp [purA] at h
    | builtin b =>
      cases b
      case len =>
        simp only [purA] at h
        split at h
        · rename_i x t hx ht
          obtain ⟨x', h1, h2⟩ := arr_one (evL_arr hf hg hx)
          obtain ⟨h3, h4⟩ := len_sim (ts := argTypes) (ty := ty) ht h2 h w
          refine ⟨v, ?_, h4⟩
          simp only [execOp, resolve, Sem.run_bind, Sem.run_pure, Result.andThen_ok, invoke, builtin, h1]
          simp only [h3, Result.andThen_ok]
        · cases h
      case min =>
        simp only [purA] at h
        split at h
        · rename_i x l hx
          obtain ⟨x', zs, h1, h2, h3⟩ := (evL_arr hf hg hx).cases
          have hb : (Builtin.min_ argTypes ty (args.map a.eval)).run c.P w = (zs.foldlM Builtin.min2 x').run c.P w := by
            simp only [Builtin.min_, h1]
          rcases foldMin_sim (P := c.P) w l zs x x' v h2 h3 h with ⟨h4, h5⟩ | ⟨rfl, rfl⟩
          · refine ⟨v, ?_, h5⟩
            simp only [execOp, resolve, Sem.run_bind, Sem.run_pure, Result.andThen_ok, invoke, builtin, hb, h4]
          · have : zs = [] := by have := h3.1; cases zs with | nil => rfl | cons _ _ => simp at this
            subst this
            refine ⟨x', ?_, h2⟩
            simp only [execOp, resolve, Sem.run_bind, Sem.run_pure, Result.andThen_ok, invoke, builtin, hb, List.foldlM_nil]
        · cases h
      case max =>
        simp only [purA] at h
        split at h
        · rename_i x l hx
          obtain ⟨x', zs, h1, h2, h3⟩ := (evL_arr hf hg hx).cases
          have hb : (Builtin.max_ argTypes ty (args.map a.eval)).run c.P w = (zs.foldlM Builtin.max2 x').run c.P w := by
            simp only [Builtin.max_, h1]
          rcases foldMax_sim (P := c.P) w l zs x x' v h2 h3 h with ⟨h4, h5⟩ | ⟨rfl, rfl⟩
          · refine ⟨v, ?_, h5⟩
            simp only [execOp, resolve, Sem.run_bind, Sem.run_pure, Result.andThen_ok, invoke, builtin, hb, h4]
          · have : zs = [] := by have := h3.1; cases zs with | nil => rfl | cons _ _ => simp at this
            subst this
            refine ⟨x', ?_, h2⟩
            simp only [execOp, resolve, Sem.run_bind, Sem.run_pure, Result.andThen_ok, invoke, builtin, hb, List.foldlM_nil]
        · cases h
      all_goals simp [purA] at h
  | _ => simp [purA] at h
end
end Go.Abs
