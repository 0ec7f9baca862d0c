/- Abs14: an operation, whatever it is: the model's wp out of the evaluator's answer. Conditions: none. -/
import Derived.Test.YtknhmkijmbcnhaaAbs13
set_option linter.unusedVariables false
set_option linter.unusedSimpArgs false
namespace Go.Abs
theorem wp_value {P : Program} {o : Oper} {a : Act} {w w' : World} {K : Act → World → Prop} {Q : Exit → Act → World → Prop} {v : Value} (hr : (execOp a.eval o).run P w = .ok (.value v) w') (hK : K (a.put o.dst v) w') : o.wp P a w K Q := by
  unfold Oper.wp; rw [hr]; exact hK
theorem wp_skip' {P : Program} {o : Oper} {a : Act} {w w' : World} {K : Act → World → Prop} {Q : Exit → Act → World → Prop} (hr : (execOp a.eval o).run P w = .ok .skip w') (hK : K (a.put o.dst undef) w') : o.wp P a w K Q := by
  unfold Oper.wp; rw [hr]; exact hK
theorem Sim.gr {G : Nat → Option Nat} {B : Nat} {E : Env} {h : AHeap} {w : World} (s : Sim G B E h w) : GR G E := s.glob
theorem evL_opt {c : Ctx} {E : Env} {n : Nat} {fr : AFrame} {a : Act} (hf : FR E n fr a.tmps) (hg : GR c.G E) {x : Option Operand} {l : List Value} (h : evL c fr x.toList = some l) : OVR E l[0]? (x.map a.eval) := by
  cases x with
  | none => simp only [Option.toList, evL, Option.some.injEq] at h; subst h; trivial
  | some x =>
    have h1 := evL_sim hf hg h
    simp only [Option.toList, List.map_cons, List.map_nil] at h1
    have hl := h1.1
    match l, hl with
    | [v], _ => exact h1.uncons.1
section
variable {c : Ctx} {B : Nat} {call : CallF} {E : Env} {n : Nat} {fr : AFrame} {a : Act} {h h' : AHeap} {w : World}
theorem op_sim (hcs : CallSim c B call) (hf : FR E n fr a.tmps) (s : Sim c.G B E h w) (hfree : Free E h h') {o : Oper} {v : Value} (hev : evOp c call fr o.op h = some (v, h')) {K : Act → World → Prop} {Q : Exit → Act → World → Prop}
    {a2 : Act} (ha : execOp a2.eval o = execOp a.eval o)
    (hK : ∀ E' v' w', Post c.G B E E' h h' w w' → VR E' v v' → K (a2.put o.dst v') w') : o.wp c.P a2 w K Q := by
  have hg : GR c.G E := s.gr
  have hfr : h.length < h'.length → E h.length = none := fun hlt => hfree _ (Nat.le_refl _) hlt
  have byR : ∀ {m : Sem Value}, OpR c.G B E h h' c.P w v m → (execOp a.eval o = (do pure (.value (← m)))) → o.wp c.P a2 w K Q := by
    rintro m ⟨E', v', w', h1, h2, h3⟩ he
    exact wp_value (by rw [ha, he]; exact run_v h1) (hK E' v' w' h2 h3)
  unfold evOp at hev
  split at hev
  · simp only [Option.map_eq_some_iff] at hev
    obtain ⟨x, hx, hh⟩ := hev
    cases hh
    obtain ⟨v', h1, h2⟩ := pur_sim hf hg hx w
    exact wp_value (by rw [ha]; exact h1) (hK E v' w (Post.refl s) h2)
  · rename_i hnp
    clear hnp
    obtain ⟨dst, op, ty, pos, after, guard⟩ := o
    simp only at hev
    split at hev
    · -- alloc
      rename_i t
      split at hev
      · rename_i z m hz hm
        cases hev
        exact byR (alloc_sim s (hfr (by simp [newA])) hz) rfl
      · cases hev
    · -- box
      rename_i t x
      split at hev
      · rename_i u m hu hm
        cases hev
        exact byR (box_sim s (hfr (by simp [newA])) (evA_sim hf hg hu)) rfl
      · cases hev
    · -- buildSlice
      rename_i t len parts
      split at hev
      · rename_i ps hps
        have hlt : h.length < h'.length := by obtain ⟨x, rfl⟩ := buildSliceA_ext hev; simp
        refine byR (buildSlice_sim s (hfr hlt) (evParts_sim hf hg hps) hev) ?_
        have e : (List.map (fun x => match x with | (i, x) => (i, a.eval x)) parts.toList).toArray = parts.map (fun x => match x with | (i, x) => (i, a.eval x)) := by
          apply Array.ext'; simp
        rw [e]; rfl
      · cases hev
    · -- load
      rename_i t x
      split at hev
      · rename_i u hu
        simp only [Option.map_eq_some_iff] at hev
        obtain ⟨y, hy, hh⟩ := hev
        cases hh
        obtain ⟨v', h1, h2⟩ := load_sim (P := c.P) s (evA_sim hf hg hu) hy
        exact byR ⟨E, v', w, h1, Post.refl s, h2⟩ rfl
      · cases hev
    · -- store
      rename_i t x y
      split at hev
      · rename_i u z hu hz
        simp only [Option.map_eq_some_iff] at hev
        obtain ⟨h2, hs, hh⟩ := hev
        cases hh
        obtain ⟨w', h3, h4⟩ := store_sim (P := c.P) s (evA_sim hf hg hu) (evA_sim hf hg hz) hs
        refine wp_skip' (w' := w') ?_ (hK E undef w' h4 (VR.undef E))
        rw [ha]
        show (do (Instr.storeAt t (a.eval x) (a.eval y)); pure Next.skip : Sem Next).run c.P w = _
        simp only [Sem.run_bind, h3, Result.andThen_ok, Sem.run_pure]
      · cases hev
    · -- convert
      rename_i sr d x
      split at hev
      · rename_i u hu
        exact byR (conv_sim s hfr (evA_sim hf hg hu) hev) rfl
      · cases hev
    · -- makeSlice
      rename_i t l m
      split at hev
      · rename_i u z hu hz
        have hlt : h.length < h'.length := by obtain ⟨x, rfl⟩ := makeSliceA_ext hev; simp
        exact byR (makeSlice_sim s (hfr hlt) (evA_sim hf hg hu) (evA_sim hf hg hz) hev) rfl
      · cases hev
    · -- slice
      rename_i t x lo hi
      split at hev
      · rename_i u l r hu hl hr
        simp only [Option.map_eq_some_iff] at hev
        obtain ⟨y, hy, hh⟩ := hev
        cases hh
        obtain ⟨v', h1, h2⟩ := slice_sim (P := c.P) s (evA_sim hf hg hu) (evL_opt hf hg hl) (evL_opt hf hg hr) hy
        exact byR ⟨E, v', w, h1, Post.refl s, h2⟩ rfl
      · cases hev
    · -- range
      rename_i t x
      split at hev
      · rename_i st hx hu
        cases hev
        have hx' := evA_sim hf hg hx
        refine byR (m := Instr.range t (a.eval x)) ?_ rfl
        generalize a.eval x = z at hx'
        cases hx'
        exact range_sim s (hfr (by simp)) hu
      · cases hev
    · -- next
      rename_i x
      split at hev
      · rename_i r hx
        split at hev
        · rename_i st p hr
          have := next_sim (P := c.P) s (evA_sim hf hg hx) hr ty
          split at hev
          · rename_i hp
            cases hev
            rw [if_pos hp] at this
            exact byR this rfl
          · rename_i hp
            cases hev
            rw [if_neg hp] at this
            exact byR this rfl
        · cases hev
      · cases hev
    · -- append
      rename_i args argTypes
      split at hev
      · rename_i x y t u hl ht hu
        obtain ⟨x', y', h1, h2, h3⟩ := arr_two (evL_arr hf hg hl)
        split at hev
        · cases hev
        · rename_i d hnot hd
          have hlen := appendA_len hev
          refine byR (append_sim (ty := ty) s hfr ht hu hd (fun k hk => hnot k hk) h2 h3 hev) ?_
          simp only [execOp, resolve, invoke, builtin, h1]
          rfl
        · cases hev
      · cases hev
    · -- copy
      rename_i args argTypes
      split at hev
      · rename_i x y t hl ht
        obtain ⟨x', y', h1, h2, h3⟩ := arr_two (evL_arr hf hg hl)
        refine byR (copy_sim (ty := ty) s ht h2 h3 hev) ?_
        simp only [execOp, resolve, invoke, builtin, h1]
        rfl
      · cases hev
    · -- call
      rename_i f args argTypes
      split at hev
      · rename_i g first captured vs hfv hl
        have hfv' := evA_sim hf hg hfv
        have hcall := hcs _ _ _ _ _ hev E w
        have hargs := evL_arr hf hg hl
        have hex : execOp a.eval ⟨dst, .call { callee := .value f, args := args, argTypes := argTypes }, ty, pos, after, guard⟩ = (do let d ← Deferred.ofValue (a.eval f) (args.map a.eval); invoke d.target d.args) := rfl
        unfold Oper.wp
        rw [ha, hex]
        clear ha byR
        generalize a.eval f = z at hfv'
        cases hfv'
        rename_i first' captured' g1 g3 g2 g4
        have hrun : (do let d ← Deferred.ofValue (.func (.func g) first' captured') (args.map a.eval); invoke d.target d.args : Sem Next).run c.P w = (callFunc g (first' ++ args.map a.eval ++ captured')).run c.P w := rfl
        rw [hrun]
        have hall : LR E (first.toList ++ vs ++ captured.toList) (first'.toList ++ (args.map a.eval).toList ++ captured'.toList) := ((LR.of_arr g1 g3).append hargs).append (LR.of_arr g2 g4)
        have harr : (first'.toList ++ (args.map a.eval).toList ++ captured'.toList).toArray = first' ++ args.map a.eval ++ captured' := by
          apply Array.ext'; simp
        have hc2 := hcall _ s hall hfree
        rw [harr] at hc2
        rcases hc2 with ⟨hr, hc3⟩ | ⟨v', w', hr, E', v2, hh, hp, hv⟩
        · rw [hr]
          refine Calls.mono hc3 fun e w' he => ?_
          obtain ⟨E', v', rfl, hp, hv⟩ := he
          exact hK E' v' w' hp hv
        · rw [hr]
          cases hh
          exact hK E' v' w' hp hv
      · cases hev
    · cases hev
end
end Go.Abs
