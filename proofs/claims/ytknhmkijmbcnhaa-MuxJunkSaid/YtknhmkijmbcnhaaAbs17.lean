/- Abs17: code and functions: what the evaluator gives, the model's call gives, whatever the tape. Conditions: none. -/
import Derived.Test.YtknhmkijmbcnhaaAbs20
import Derived.Deep.LoopGhost
set_option linter.unusedVariables false
set_option linter.unusedSimpArgs false
namespace Go.Abs
def exitOf : AExit → Exit
  | .normal => .normal
  | .exit id => .exit id
  | .ret => .ret
section
variable {c : Ctx} {B : Nat} {call : CallF} {n : Nat}
theorem evRegion_len (hcl : CallLen call) {ops : Array Oper} {draw : Bool} {fr fr' : AFrame} {h h' : AHeap} (he : evRegion c call n ops draw fr h = some (fr', h')) : h.length ≤ h'.length := by
  unfold evRegion at he
  split at he
  · split at he
    · exact evDraw_len hcl _ _ _ _ _ _ _ _ he
    · cases he
  · exact evOps_len hcl ops _ _ _ _ _ he
theorem loopA_len {f : AFrame → AHeap → CodeR} (hf : ∀ fr h x fr' h', f fr h = some (x, fr', h') → h.length ≤ h'.length) : ∀ k fr h x fr' h', loopA f k fr h = some (x, fr', h') → h.length ≤ h'.length
  | 0, _, _, _, _, _, he => by simp [loopA] at he
  | k + 1, fr, h, x, fr', h', he => by
    simp only [loopA] at he
    split at he
    · rename_i fr1 h1 h2
      exact Nat.le_trans (hf _ _ _ _ _ h2) (loopA_len hf k _ _ _ _ _ he)
    · exact hf _ _ _ _ _ he
theorem evC_len (hcl : CallLen call) (k : Nat) : ∀ (cd : Code) (fr : AFrame) (h : AHeap) x fr' h', evC c call n k cd fr h = some (x, fr', h') → h.length ≤ h'.length := by
  intro cd
  induction cd with
  | skip => intro fr h x fr' h' he; simp only [evC, Option.some.injEq, Prod.mk.injEq] at he; rw [he.2.2]; exact Nat.le_refl _
  | ret => intro fr h x fr' h' he; simp only [evC, Option.some.injEq, Prod.mk.injEq] at he; rw [he.2.2]; exact Nat.le_refl _
  | exit id => intro fr h x fr' h' he; simp only [evC, Option.some.injEq, Prod.mk.injEq] at he; rw [he.2.2]; exact Nat.le_refl _
  | region id ops draw =>
    intro fr h x fr' h' he
    simp only [evC] at he
    split at he
    · rename_i hr; cases he; exact evRegion_len hcl hr
    · cases he
  | seq a b iha ihb =>
    intro fr h x fr' h' he
    simp only [evC] at he
    split at he
    · rename_i h1; exact Nat.le_trans (iha _ _ _ _ _ h1) (ihb _ _ _ _ _ he)
    · exact iha _ _ _ _ _ he
  | cond y a b iha ihb =>
    intro fr h x fr' h' he
    simp only [evC] at he
    split at he
    · exact iha _ _ _ _ _ he
    · exact ihb _ _ _ _ _ he
    · cases he
  | block id a iha =>
    intro fr h x fr' h' he
    simp only [evC] at he
    split at he
    · rename_i h1
      split at he
      · cases he; exact iha _ _ _ _ _ h1
      · cases he; exact iha _ _ _ _ _ h1
    · exact iha _ _ _ _ _ he
  | loop a iha => intro fr h x fr' h' he; simp only [evC] at he; exact loopA_len iha k _ _ _ _ _ he
  | rangeFunc f ps a b _ _ => intro fr h x fr' h' he; simp [evC] at he
  | scope a _ => intro fr h x fr' h' he; simp [evC] at he
  | label l => intro fr h x fr' h' he; simp [evC] at he
  | goto l => intro fr h x fr' h' he; simp [evC] at he
  | refuse y => intro fr h x fr' h' he; simp [evC] at he
/-- What is handed on behind a piece of code. -/
def CPost (c : Ctx) (B n : Nat) (E : Env) (h h' : AHeap) (w : World) (ds : List Deferred) (x : AExit) (fr' : AFrame) (e : Exit) (a' : Act) (w' : World) : Prop :=
  ∃ E', e = exitOf x ∧ Post c.G B E E' h h' w w' ∧ FR E' n fr' a'.tmps ∧ a'.defers = ds
theorem CPost.trans {E E1 : Env} {h h1 h2 : AHeap} {w w1 : World} {ds : List Deferred} {x : AExit} {fr' : AFrame} {e : Exit} {a' : Act} {w' : World} (p : Post c.G B E E1 h h1 w w1) (q : CPost c B n E1 h1 h2 w1 ds x fr' e a' w') : CPost c B n E h h2 w ds x fr' e a' w' :=
  let ⟨E', q1, q2, q3, q4⟩ := q
  ⟨E', q1, p.trans q2, q3, q4⟩
theorem code_sim (hm : c.P.follows .mixedOrders = true) (hcl : CallLen call) (hcs : CallSim c B call) (k : Nat) : ∀ (cd : Code) {E : Env} {fr : AFrame} {h : AHeap} {x : AExit} {fr' : AFrame} {h' : AHeap} {a : Act} {w : World}, evC c call n k cd fr h = some (x, fr', h') →
    FR E n fr a.tmps → Sim c.G B E h w → Free E h h' → cd.wp c.P (CPost c B n E h h' w a.defers x fr') a w := by
  intro cd
  induction cd with
  | skip =>
    intro E fr h x fr' h' a w he hf s hfree
    simp only [evC, Option.some.injEq, Prod.mk.injEq] at he
    obtain ⟨rfl, rfl, rfl⟩ := he
    exact wp_skip ⟨E, rfl, Post.refl s, hf, rfl⟩
  | ret =>
    intro E fr h x fr' h' a w he hf s hfree
    simp only [evC, Option.some.injEq, Prod.mk.injEq] at he
    obtain ⟨rfl, rfl, rfl⟩ := he
    exact wp_ret ⟨E, rfl, Post.refl s, hf, rfl⟩
  | exit id =>
    intro E fr h x fr' h' a w he hf s hfree
    simp only [evC, Option.some.injEq, Prod.mk.injEq] at he
    obtain ⟨rfl, rfl, rfl⟩ := he
    exact wp_exit ⟨E, rfl, Post.refl s, hf, rfl⟩
  | region id ops draw =>
    intro E fr h x fr' h' a w he hf s hfree
    simp only [evC] at he
    split at he
    · rename_i fr1 h1 hr
      cases he
      unfold evRegion at hr
      split at hr
      · rename_i hd
        subst hd
        split at hr
        · rename_i hchk
          exact draw_sim hm hcl hcs hchk hr hf s hfree fun E' a' w' hp hf' hd' => ⟨E', rfl, hp, hf', hd'⟩
        · cases hr
      · rename_i hd
        have hd' : draw = false := by simpa using hd
        subst hd'
        exact wp_region_list (ops_sim hcl hcs ops ops.toList hr hf s hfree fun E' a' w' hp hf' hd' => ⟨E', rfl, hp, hf', hd'⟩)
    · cases he
  | seq p q ihp ihq =>
    intro E fr h x fr' h' a w he hf s hfree
    simp only [evC] at he
    split at he
    · rename_i fr1 h1 h2
      have hle := evC_len hcl k q _ _ _ _ _ he
      refine wp_seq (wp_mono (ihp h2 hf s (hfree.left hle)) ?_)
      rintro e a1 w1 ⟨E1, rfl, hp, hf1, hd1⟩
      refine wp_mono (ihq he hf1 hp.sim (hfree.right hp)) ?_
      intro e2 a2 w2 hq
      rw [hd1] at hq
      exact hq.trans hp
    · rename_i hne
      refine wp_seq (wp_mono (ihp he hf s hfree) ?_)
      rintro e a1 w1 ⟨E1, rfl, hp, hf1, hd1⟩
      cases x with
      | normal => exact absurd he (hne _ _)
      | exit id => exact ⟨E1, rfl, hp, hf1, hd1⟩
      | ret => exact ⟨E1, rfl, hp, hf1, hd1⟩
  | cond y p q ihp ihq =>
    intro E fr h x fr' h' a w he hf s hfree
    simp only [evC] at he
    split at he
    · rename_i hy
      have hy' := evA_sim hf s.gr hy
      refine wp_cond (t := true) ?_ (ihp he hf s hfree)
      generalize a.eval y = z at hy'
      cases hy'; rfl
    · rename_i hy
      have hy' := evA_sim hf s.gr hy
      refine wp_cond (t := false) ?_ (ihq he hf s hfree)
      generalize a.eval y = z at hy'
      cases hy'; rfl
    · cases he
  | block id p ihp =>
    intro E fr h x fr' h' a w he hf s hfree
    simp only [evC] at he
    refine wp_block ?_
    split at he
    · rename_i i fr1 h1 h2
      split at he
      · rename_i hi
        cases he
        refine wp_mono (ihp h2 hf s hfree) ?_
        rintro e a1 w1 ⟨E1, rfl, hp, hf1, hd1⟩
        simp only [exitOf, Exit.inBlock, hi, if_true]
        exact ⟨E1, rfl, hp, hf1, hd1⟩
      · rename_i hi
        cases he
        refine wp_mono (ihp h2 hf s hfree) ?_
        rintro e a1 w1 ⟨E1, rfl, hp, hf1, hd1⟩
        simp only [exitOf, Exit.inBlock, hi, if_false]
        exact ⟨E1, rfl, hp, hf1, hd1⟩
    · rename_i hne
      refine wp_mono (ihp he hf s hfree) ?_
      rintro e a1 w1 ⟨E1, rfl, hp, hf1, hd1⟩
      cases x with
      | normal => exact ⟨E1, rfl, hp, hf1, hd1⟩
      | exit i => exact absurd he (hne _ _ _)
      | ret => exact ⟨E1, rfl, hp, hf1, hd1⟩
  | loop p ihp =>
    intro E fr h x fr' h' a w he hf s hfree
    simp only [evC] at he
    refine wp_loop_ghost (fun j a1 w1 => ∃ E1 fr1 h1, loopA (evC c call n k p) j fr1 h1 = some (x, fr', h') ∧ Post c.G B E E1 h h1 w w1 ∧ FR E1 n fr1 a1.tmps ∧ a1.defers = a.defers) k ⟨E, fr, h, he, Post.refl s, hf, rfl⟩ ?_
    rintro j a1 w1 ⟨E1, fr1, h1, h2, hp, hf1, hd1⟩
    cases j with
    | zero => simp [loopA] at h2
    | succ j =>
      simp only [loopA] at h2
      split at h2
      · rename_i fr2 h3 h4
        have hle := loopA_len (evC_len hcl k p) j _ _ _ _ _ h2
        have hfree1 : Free E1 h1 h' := hfree.right hp
        refine wp_mono (ihp h4 hf1 hp.sim (hfree1.left hle)) ?_
        rintro e a2 w2 ⟨E2, rfl, hp2, hf2, hd2⟩
        exact ⟨j, Nat.lt_succ_self j, E2, fr2, h3, h2, hp.trans hp2, hf2, hd2.trans hd1⟩
      · rename_i hne
        refine wp_mono (ihp h2 hf1 hp.sim (hfree.right hp)) ?_
        rintro e a2 w2 ⟨E2, rfl, hp2, hf2, hd2⟩
        cases x with
        | normal => exact absurd h2 (hne _ _)
        | exit i => exact ⟨E2, rfl, hp.trans hp2, hf2, hd2.trans hd1⟩
        | ret => exact ⟨E2, rfl, hp.trans hp2, hf2, hd2.trans hd1⟩
  | rangeFunc f ps a b _ _ => intro E fr h x fr' h' a w he; simp [evC] at he
  | scope a _ => intro E fr h x fr' h' a w he; simp [evC] at he
  | label l => intro E fr h x fr' h' a w he; simp [evC] at he
  | goto l => intro E fr h x fr' h' a w he; simp [evC] at he
  | refuse y => intro E fr h x fr' h' a w he; simp [evC] at he
theorem res_sim {E : Env} {fr : AFrame} {h : AHeap} {tmps : Array Value} {w : World} (hf : FR E n fr tmps) (s : Sim c.G B E h w) (f : ResultVar → Sem Value) (ft : ∀ t, f (.tmp t) = pure (tmps.getD t undef)) (fc : ∀ a t, f (.cell a t) = do loadVar t (← asAddr (tmps.getD a undef))) : ∀ (l : List ResultVar) (vs : List Value), resA c.P fr h l = some vs →
    ∃ vs', (l.mapM f).run c.P w = .ok vs' w ∧ LR E vs vs'
  | [], vs, he => by simp only [resA, Option.some.injEq] at he; subst he; exact ⟨[], by simp, LR.nil E⟩
  | .tmp t :: l, vs, he => by
    simp only [resA] at he
    split at he
    · rename_i us hu
      cases he
      obtain ⟨us', h1, h2⟩ := res_sim hf s f ft fc l us hu
      exact ⟨tmps.getD t undef :: us', by simp only [List.mapM_cons, Sem.run_bind, ft, Sem.run_pure, Result.andThen_ok, h1], LR.cons (hf.2 t) h2⟩
    · cases he
  | .cell a t :: l, vs, he => by
    simp only [resA] at he
    split at he
    · rename_i v us hv hu
      cases he
      obtain ⟨us', h1, h2⟩ := res_sim hf s f ft fc l us hu
      obtain ⟨v', h3, h4⟩ := load_sim (P := c.P) s (hf.2 a) hv
      refine ⟨v' :: us', ?_, LR.cons h4 h2⟩
      have h5 : (do loadVar t (← asAddr (tmps.getD a undef)) : Sem Value).run c.P w = .ok v' w := by
        have hx := hf.2 a
        unfold loadA at hv
        split at hv
        · rename_i b o hfa
          rw [hfa] at hx
          generalize tmps.getD a undef = z at hx h3 ⊢
          cases hx
          exact h3
        · cases hv
      rw [← fc] at h5
      simp only [List.mapM_cons, Sem.run_bind, h5, Result.andThen_ok, h1, Sem.run_pure]
    · cases he
theorem results_sim {E : Env} {fr : AFrame} {h : AHeap} {tmps : Array Value} {w : World} (fn : Func) (hf : FR E n fr tmps) (s : Sim c.G B E h w) {vs : List Value} (he : resA c.P fr h fn.results.toList = some vs) :
    ∃ v', (results fn tmps).run c.P w = .ok v' w ∧ VR E (oneA vs) v' := by
  have key : ∃ vs', (results fn tmps).run c.P w = .ok (if h : vs'.toArray.size = 1 then vs'.toArray[0] else .tuple vs'.toArray) w ∧ LR E vs vs' := by
    unfold results
    rw [Array.mapM_eq_mapM_toList]
    obtain ⟨vs', h1, h2⟩ := res_sim hf s (fun | .tmp t => pure (tmps.getD t undef) | .cell a t => do loadVar t (← asAddr (tmps.getD a undef))) (fun _ => rfl) (fun _ _ => rfl) _ _ he
    refine ⟨vs', ?_, h2⟩
    simp only [Sem.run_bind, Sem.run_map]
    erw [h1]
    rfl
  obtain ⟨vs', h3, h2⟩ := key
  refine ⟨_, h3, ?_⟩
  unfold oneA
  split
  · rename_i v
    obtain ⟨v', zs, rfl, h4, h5⟩ := h2.cases
    have : zs = [] := by have := h5.1; cases zs with | nil => rfl | cons _ _ => simp at this
    subst this
    simpa using h4
  · rename_i hne
    have : ¬ vs'.toArray.size = 1 := by
      intro hh
      have hl := h2.1
      simp only [List.size_toArray] at hh
      match vs, hl with
      | [v], _ => exact hne v rfl
      | [], hl => simp at hl; omega
      | _ :: _ :: _, hl => simp at hl; omega
    rw [dif_neg this]
    exact VR.tuple' h2
end
/-- What is asked of a function that has a contract of its own. -/
def PrimOK (c : Ctx) (B : Nat) : Prop := ∀ f p, c.prim f = some p → CallLen (fun _ => p) ∧ ∀ args h v h', p args h = some (v, h') → ∀ E w args', Sim c.G B E h w → LR E args args' → Free E h h' →
  CallOK c.P f args'.toArray w fun e w' => ∃ E' v', e = .returned v' ∧ Post c.G B E E' h h' w w' ∧ VR E' v v'
theorem evF_len (c : Ctx) (B : Nat) (hp : PrimOK c B) : ∀ k, CallLen (evF c k)
  | 0 => fun f args h v h' he => by simp [evF] at he
  | k + 1 => fun f args h v h' he => by
    simp only [evF] at he
    split at he
    · rename_i p hpr; exact (hp f p hpr).1 f args h v h' he
    · split at he
      · unfold evBody at he
        split at he
        · split at he
          · cases he
          · split at he
            · cases he
            · rename_i x fr h1 hne hc
              simp only [Option.map_eq_some_iff] at he
              obtain ⟨vs, _, hh⟩ := he
              cases hh
              exact evC_len (evF_len c B hp k) k _ _ _ _ _ _ hc
            · cases he
        · cases he
      · cases he
theorem fun_sim (c : Ctx) (B : Nat) (hm : c.P.follows .mixedOrders = true) (hp : PrimOK c B) : ∀ k, CallSim c B (evF c k)
  | 0 => fun f args h v h' he => by simp [evF] at he
  | k + 1 => fun f args h v h' he E w args' s hargs hfree => by
    simp only [evF] at he
    split at he
    · rename_i p hpr; exact (hp f p hpr).2 args h v h' he E w args' s hargs hfree
    · split at he
      · rename_i fn hfn
        unfold evBody at he
        split at he
        · rename_i cd hbody
          split at he
          · cases he
          · rename_i hname
            split at he
            · cases he
            · rename_i x fr h1 hne hc
              simp only [Option.map_eq_some_iff] at he
              obtain ⟨vs, hres, hh⟩ := he
              cases hh
              refine .inl ⟨?_, ?_⟩
              · simp only [callFunc, Sem.run_bind, run_program, Result.andThen_ok, hfn]
                rw [if_neg hname]
                simp [hbody]
              · refine calls_of_wp hfn hbody ?_
                have hf0 : FR E fn.ntmps args (args'.toArray ++ Array.replicate (fn.ntmps - args'.toArray.size) undef) := by
                  refine ⟨by simp; omega, fun t => ?_⟩
                  have hget : ∀ (l : List Value) (t : Nat), fget l t = (l[t]?).getD undef := by
                    intro l
                    induction l with
                    | nil => intro t; cases t <;> rfl
                    | cons x l ih => intro t; cases t with | zero => rfl | succ t => simpa [fget] using ih t
                  rw [hget, Array.getD_eq_getD_getElem?]
                  by_cases ht : t < args.length
                  · obtain ⟨v', h2, h3⟩ := hargs.2 t _ (List.getElem?_eq_getElem ht)
                    rw [List.getElem?_eq_getElem ht]
                    have ht' : t < args'.length := by rw [← hargs.1]; exact ht
                    rw [Array.getElem?_append_left (by simpa using ht')]
                    simp only [List.getElem?_toArray, h2, Option.getD_some]
                    exact h3
                  · rw [List.getElem?_eq_none (by omega)]
                    have ht' : args'.length ≤ t := by rw [← hargs.1]; omega
                    rw [Array.getElem?_append_right (by simpa using ht')]
                    have : (((Array.replicate (fn.ntmps - args'.toArray.size) undef)[t - args'.toArray.size]?).getD undef) = undef := by
                      rw [Array.getElem?_replicate]
                      split <;> rfl
                    rw [this]
                    exact VR.undef E
                have hw := code_sim (n := fn.ntmps) hm (evF_len c B hp k) (fun_sim c B hm hp k) k cd hc (a := { tmps := args'.toArray ++ Array.replicate (fn.ntmps - args'.toArray.size) undef, defers := [] }) hf0 s hfree
                refine wp_mono hw ?_
                rintro e a1 w1 ⟨E1, rfl, hp1, hf1, hd1⟩
                obtain ⟨v', h2, h3⟩ := results_sim fn hf1 hp1.sim hres
                cases x with
                | exit i => exact absurd rfl (hne i)
                | normal => exact ⟨hd1, v', h2, E1, v', rfl, hp1, h3⟩
                | ret => exact ⟨hd1, v', h2, E1, v', rfl, hp1, h3⟩
            · cases he
        · cases he
      · cases he
end Go.Abs
