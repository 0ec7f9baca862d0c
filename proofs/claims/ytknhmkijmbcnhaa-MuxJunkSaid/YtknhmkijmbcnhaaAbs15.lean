/- Abs15: regions in the text's order, and what a region hands on. Conditions: none. -/
import Derived.Test.YtknhmkijmbcnhaaAbs14
set_option linter.unusedVariables false
set_option linter.unusedSimpArgs false
namespace Go.Abs
theorem FR.put {E : Env} {n : Nat} {fr fr' : AFrame} {a : Act} {dst : Option Tmp} {v v' : Value} (hf : FR E n fr a.tmps) (hv : VR E v v') (hp : putA n fr dst v = some fr') : FR E n fr' (a.put dst v').tmps := by
  unfold putA at hp
  cases dst with
  | none => cases hp; exact hf
  | some d =>
    simp only at hp
    split at hp
    · rename_i hd
      cases hp
      refine ⟨by simp [Act.put]; exact hf.1, fun t => ?_⟩
      by_cases ht : t = d
      · subst ht
        rw [fget_fset_same]
        have hlt : t < a.tmps.size := Nat.lt_of_lt_of_le hd hf.1
        simp only [Act.put, Array.getD_eq_getD_getElem?]
        rw [Array.getElem?_setIfInBounds_self_of_lt hlt]
        exact hv
      · rw [fget_fset_ne _ _ _ _ ht]
        have := hf.2 t
        simp only [Act.put, Array.getD_eq_getD_getElem?] at this ⊢
        rw [Array.getElem?_setIfInBounds_ne (fun hh => ht hh.symm)]
        exact this
    · cases hp
theorem want_sim {E : Env} {n : Nat} {fr : AFrame} {a : Act} (hf : FR E n fr a.tmps) (ops : Array Oper) (o : Oper) : Region.wanted o (yielded ops a.tmps) = wantA ops fr o := by
  unfold Region.wanted wantA
  cases o.guard with
  | none => rfl
  | some jw =>
    obtain ⟨j, want⟩ := jw
    simp only [yielded]
    cases hd : (ops[j]?).bind (·.dst) with
    | none => rfl
    | some t =>
      simp only [Option.bind_some]
      have h1 := hf.2 t
      rw [Array.getD_eq_getD_getElem?] at h1
      have key : ∀ (x y : Value), VR E x y → (match (some y : Option Value) with | some (.bool b) => some b | _ => none) = (match x with | .bool b => some b | _ => none) := by
        intro x y h; cases h <;> rfl
      cases ht : a.tmps[t]? with
      | none =>
        rw [ht] at h1
        simp only [Option.getD_none] at h1
        have h2 := key _ _ h1
        cases hx : fget fr t <;> simp_all [undef]
      | some y =>
        rw [ht] at h1
        simp only [Option.getD_some] at h1
        have h2 := key _ _ h1
        generalize fget fr t = x at h1 h2 ⊢
        clear key
        cases h1 <;> rfl
section
variable {c : Ctx} {B : Nat} {call : CallF} {n : Nat}
theorem evOps_len (hcl : CallLen call) (ops : Array Oper) : ∀ (l : List Oper) (fr fr' : AFrame) (h h' : AHeap), evOps c call n ops l fr h = some (fr', h') → h.length ≤ h'.length
  | [], fr, fr', h, h', he => by simp only [evOps, Option.some.injEq, Prod.mk.injEq] at he; rw [he.2]; exact Nat.le_refl _
  | o :: l, fr, fr', h, h', he => by
    simp only [evOps] at he
    split at he
    · split at he
      · rename_i v h1 hop
        split at he
        · exact Nat.le_trans (evOp_len hcl hop) (evOps_len hcl ops l _ _ _ _ he)
        · cases he
      · cases he
    · split at he
      · exact evOps_len hcl ops l _ _ _ _ he
      · cases he
theorem Free.left {E : Env} {h h1 h2 : AHeap} (hf : Free E h h2) (hle : h1.length ≤ h2.length) : Free E h h1 := fun id h3 h4 => hf id h3 (Nat.lt_of_lt_of_le h4 hle)
theorem Free.right {G : Nat → Option Nat} {E E' : Env} {h h1 h2 : AHeap} {w w' : World} (hf : Free E h h2) (p : Post G B E E' h h1 w w') : Free E' h1 h2 := fun id h3 h4 => by
  by_cases he : E' id = E id
  · rw [he]; exact hf id (Nat.le_trans p.len h3) h4
  · have := p.new id he; omega
theorem ops_sim (hcl : CallLen call) (hcs : CallSim c B call) (ops : Array Oper) : ∀ (l : List Oper) {E : Env} {fr fr' : AFrame} {h h' : AHeap} {a : Act} {w : World} {Q : Exit → Act → World → Prop}, evOps c call n ops l fr h = some (fr', h') →
    FR E n fr a.tmps → Sim c.G B E h w → Free E h h' →
    (∀ E' a' w', Post c.G B E E' h h' w w' → FR E' n fr' a'.tmps → a'.defers = a.defers → Q .normal a' w') → wpList c.P ops Q l a w
  | [], E, fr, fr', h, h', a, w, Q, he, hf, s, _, hQ => by
    simp only [evOps, Option.some.injEq, Prod.mk.injEq] at he
    obtain ⟨rfl, rfl⟩ := he
    exact hQ E a w (Post.refl s) hf rfl
  | o :: l, E, fr, fr', h, h', a, w, Q, he, hf, s, hfree, hQ => by
    simp only [evOps] at he
    simp only [wpList]
    rw [want_sim hf ops o]
    split at he
    · rename_i hw
      rw [if_pos hw]
      split at he
      · rename_i v h1 hop
        split at he
        · rename_i fr1 hput
          have hle := evOps_len hcl ops l _ _ _ _ he
          refine .inl (op_sim hcs hf s (hfree.left hle) hop rfl fun E' v' w' hp hv => ?_)
          refine ops_sim hcl hcs ops l he (FR.put (hf.mono hp.le) hv hput) hp.sim (hfree.right hp) fun E2 a2 w2 hp2 hf2 hd2 => ?_
          refine hQ E2 a2 w2 (hp.trans hp2) hf2 (hd2.trans ?_)
          cases o.dst <;> rfl
        · cases he
      · cases he
    · rename_i hw
      rw [if_neg hw]
      split at he
      · rename_i fr1 hput
        refine ops_sim hcl hcs ops l he (FR.put hf (VR.undef E) hput) s hfree fun E2 a2 w2 hp2 hf2 hd2 => ?_
        refine hQ E2 a2 w2 hp2 hf2 (hd2.trans ?_)
        cases o.dst <;> rfl
      · cases he
end
end Go.Abs
