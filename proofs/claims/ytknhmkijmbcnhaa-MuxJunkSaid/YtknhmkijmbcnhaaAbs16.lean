/- Abs16: a region that draws its order: the evaluator's answer in the text's order is the model's in every order. Conditions: none. -/
import Derived.Test.YtknhmkijmbcnhaaAbs15
set_option linter.unusedVariables false
set_option linter.unusedSimpArgs false
namespace Go.Abs
/-! ### the operands alone matter -/
theorem evL_congr {c : Ctx} {f g : AFrame} : ∀ (l : List Operand), (∀ x ∈ l, evA c f x = evA c g x) → evL c f l = evL c g l
  | [], _ => rfl
  | x :: l, h => by
    simp only [evL]
    rw [h x (by simp), evL_congr l (fun y hy => h y (by simp [hy]))]
theorem evParts_congr {c : Ctx} {f g : AFrame} : ∀ (l : List (Nat × Operand)), (∀ x ∈ l.map (·.2), evA c f x = evA c g x) → evParts c f l = evParts c g l
  | [], _ => rfl
  | (i, x) :: l, h => by
    simp only [evParts]
    rw [h x (by simp), evParts_congr l (fun y hy => h y (by simp only [List.map_cons, List.mem_cons]; exact .inr hy))]
theorem purA_congr {c : Ctx} {f g : AFrame} (op : Op) (h : ∀ x ∈ op.operands, evA c f x = evA c g x) : purA c f op = purA c g op := by
  cases op
  case call cl =>
    obtain ⟨callee, args, argTypes⟩ := cl
    cases callee with
    | value v => rfl
    | invoke r m => rfl
    | builtin b =>
      have hl : evL c f args.toList = evL c g args.toList := evL_congr _ fun x hx => h x (by simp [Op.operands, Call.operands]; simpa using hx)
      cases b <;> simp only [purA, hl]
  case makeFunc fn first captured =>
    have h1 : evL c f first.toList = evL c g first.toList := evL_congr _ fun x hx => h x (by simp [Op.operands]; exact .inl (by simpa using hx))
    have h2 : evL c f captured.toList = evL c g captured.toList := evL_congr _ fun x hx => h x (by simp [Op.operands]; exact .inr (by simpa using hx))
    simp only [purA, h1, h2]
  case build t ps =>
    have h1 : evParts c f ps.toList = evParts c g ps.toList := evParts_congr _ fun x hx => h x (by simpa [Op.operands] using hx)
    simp only [purA, h1]
  all_goals first
    | rfl
    | (simp only [Op.operands] at h; simp_all [purA]; done)
    | (simp_all [purA, Op.operands])
theorem evOp_congr {c : Ctx} {call : CallF} {f g : AFrame} (op : Op) (h : ∀ x ∈ op.operands, evA c f x = evA c g x) (hh : AHeap) : evOp c call f op hh = evOp c call g op hh := by
  unfold evOp
  rw [purA_congr op h]
  split
  · rfl
  · rename_i hnp
    clear hnp
    cases op
    case call cl =>
      obtain ⟨callee, args, argTypes⟩ := cl
      have hl : evL c f args.toList = evL c g args.toList := evL_congr _ fun x hx => h x (by simp [Op.operands, Call.operands]; exact .inr (by simpa using hx))
      cases callee with
      | value v =>
        have hv : evA c f v = evA c g v := h v (by simp [Op.operands, Call.operands])
        simp only [hl, hv]
      | invoke r m => rfl
      | builtin b => cases b <;> simp only [hl]
    case buildSlice t l ps =>
      have h1 : evParts c f ps.toList = evParts c g ps.toList := evParts_congr _ fun x hx => h x (by simpa [Op.operands] using hx)
      simp only [h1]
    case slice t x lo hi mx =>
      have h1 : evA c f x = evA c g x := h x (by simp [Op.operands])
      have h2 : evL c f lo.toList = evL c g lo.toList := evL_congr _ fun y hy => h y (by cases lo <;> simp_all [Op.operands])
      have h3 : evL c f hi.toList = evL c g hi.toList := evL_congr _ fun y hy => h y (by cases hi <;> simp_all [Op.operands])
      cases mx with
      | some m => rfl
      | none => simp only [h1, h2, h3]
    case next x b =>
      have h1 : evA c f x = evA c g x := h x (by simp [Op.operands])
      cases b with
      | false => rfl
      | true => simp only [h1]
    all_goals first
      | rfl
      | (simp_all [Op.operands])
/-! ### the run in the text's order -/
structure Trace (c : Ctx) (call : CallF) (n : Nat) (ops : Array Oper) (mt : Nat → AFrame → AHeap → AHeap → Bool) (F : Nat → AFrame) (H : Nat → AHeap) (V : Nat → Value) : Prop where
  step : ∀ (i : Nat) (o : Oper), ops[i]? = some o → putA n (F i) o.dst (V i) = some (F (i + 1)) ∧
    ((wantA ops (F i) o = true ∧ evOp c call (F i) o.op (H i) = some (V i, H (i + 1)) ∧ (pureOp o.op || extOp o.op || mt i (F i) (H i) (H (i + 1)) || decide ((H (i + 1)).take (H i).length = H i)) = true) ∨
     (wantA ops (F i) o = false ∧ V i = undef ∧ H (i + 1) = H i))
theorem trace_of {c : Ctx} {call : CallF} {n : Nat} (ops : Array Oper) (mt : Nat → AFrame → AHeap → AHeap → Bool) : ∀ (l : List Oper) (k : Nat) (fr fr' : AFrame) (h h' : AHeap), evDraw c call n ops mt l k fr h = some (fr', h') →
    ∃ (F : Nat → AFrame) (H : Nat → AHeap) (V : Nat → Value), F 0 = fr ∧ H 0 = h ∧ F l.length = fr' ∧ H l.length = h' ∧
      ∀ (i : Nat) (o : Oper), l[i]? = some o → putA n (F i) o.dst (V i) = some (F (i + 1)) ∧
        ((wantA ops (F i) o = true ∧ evOp c call (F i) o.op (H i) = some (V i, H (i + 1)) ∧ (pureOp o.op || extOp o.op || mt (k + i) (F i) (H i) (H (i + 1)) || decide ((H (i + 1)).take (H i).length = H i)) = true) ∨
         (wantA ops (F i) o = false ∧ V i = undef ∧ H (i + 1) = H i))
  | [], k, fr, fr', h, h', he => by
    simp only [evDraw, Option.some.injEq, Prod.mk.injEq] at he
    exact ⟨fun _ => fr, fun _ => h, fun _ => undef, rfl, rfl, he.1, he.2, by simp⟩
  | o :: l, k, fr, fr', h, h', he => by
    have build : ∀ (v : Value) (fr1 : AFrame) (h1 : AHeap), evDraw c call n ops mt l (k + 1) fr1 h1 = some (fr', h') → putA n fr o.dst v = some fr1 →
        ((wantA ops fr o = true ∧ evOp c call fr o.op h = some (v, h1) ∧ (pureOp o.op || extOp o.op || mt k fr h h1 || decide (h1.take h.length = h)) = true) ∨ (wantA ops fr o = false ∧ v = undef ∧ h1 = h)) →
        ∃ (F : Nat → AFrame) (H : Nat → AHeap) (V : Nat → Value), F 0 = fr ∧ H 0 = h ∧ F (o :: l).length = fr' ∧ H (o :: l).length = h' ∧
          ∀ (i : Nat) (o' : Oper), (o :: l)[i]? = some o' → putA n (F i) o'.dst (V i) = some (F (i + 1)) ∧
            ((wantA ops (F i) o' = true ∧ evOp c call (F i) o'.op (H i) = some (V i, H (i + 1)) ∧ (pureOp o'.op || extOp o'.op || mt (k + i) (F i) (H i) (H (i + 1)) || decide ((H (i + 1)).take (H i).length = H i)) = true) ∨
             (wantA ops (F i) o' = false ∧ V i = undef ∧ H (i + 1) = H i)) := by
      intro v fr1 h1 hr hp hst
      obtain ⟨F, H, V, f0, h0, fl, hl, hs⟩ := trace_of ops mt l (k + 1) fr1 fr' h1 h' hr
      refine ⟨fun i => match i with | 0 => fr | i + 1 => F i, fun i => match i with | 0 => h | i + 1 => H i, fun i => match i with | 0 => v | i + 1 => V i, rfl, rfl, fl, hl, ?_⟩
      intro i o' hi
      cases i with
      | zero =>
        simp only [List.getElem?_cons_zero, Option.some.injEq] at hi
        subst hi
        simp only [f0, h0, Nat.add_zero]
        exact ⟨hp, hst⟩
      | succ i =>
        have := hs i o' (by simpa using hi)
        rw [Nat.add_assoc, Nat.add_comm 1 i] at this
        exact this
    simp only [evDraw] at he
    split at he
    · rename_i hw
      split at he
      · rename_i v h1 hop
        split at he
        · rename_i hq
          split at he
          · rename_i fr1 hp
            exact build v fr1 h1 he hp (.inl ⟨hw, hop, hq⟩)
          · cases he
        · cases he
      · cases he
    · rename_i hw
      split at he
      · rename_i fr1 hp
        exact build undef fr1 h he hp (.inr ⟨by simpa using hw, rfl, rfl⟩)
      · cases he
theorem evDraw_len {c : Ctx} {call : CallF} {n : Nat} (hcl : CallLen call) (ops : Array Oper) (mt : Nat → AFrame → AHeap → AHeap → Bool) : ∀ (l : List Oper) (k : Nat) (fr fr' : AFrame) (h h' : AHeap), evDraw c call n ops mt l k fr h = some (fr', h') → h.length ≤ h'.length
  | [], k, fr, fr', h, h', he => by simp only [evDraw, Option.some.injEq, Prod.mk.injEq] at he; rw [he.2]; exact Nat.le_refl _
  | o :: l, k, fr, fr', h, h', he => by
    simp only [evDraw] at he
    split at he
    · split at he
      · rename_i v h1 hop
        split at he
        · split at he
          · exact Nat.le_trans (evOp_len hcl hop) (evDraw_len hcl ops mt l _ _ _ _ _ he)
          · cases he
        · cases he
      · cases he
    · split at he
      · exact evDraw_len hcl ops mt l _ _ _ _ _ he
      · cases he
/-! ### what surely comes ahead -/
theorem anc_prop (ops : Array Oper) (S : Nat → Prop) (hS : ∀ (j : Nat) (o : Oper), ops[j]? = some o → S j → ∀ e ∈ o.after, Region.binds .any e = true → S e.on) : ∀ (l : List Oper) (acc : List (List Nat)),
    (∀ (j : Nat), l[j]? = ops[acc.length + j]?) → (∀ j, ∀ a ∈ acc.getD j [], S j → S a) → ∀ j, ∀ a ∈ (ancA l acc).getD j [], S j → S a
  | [], acc, _, h => h
  | o :: l, acc, hl, h => by
    simp only [ancA]
    refine anc_prop ops S hS l _ (fun j => by have := hl (j + 1); simp only [List.getElem?_cons_succ] at this; rw [this]; simp [Nat.add_assoc, Nat.add_comm 1 j]) ?_
    intro j a ha hj
    by_cases hlt : j < acc.length
    · rw [List.getD_eq_getElem?_getD, List.getElem?_append_left hlt, ← List.getD_eq_getElem?_getD] at ha
      exact h j a ha hj
    · by_cases heq : j = acc.length
      · subst heq
        rw [List.getD_eq_getElem?_getD, List.getElem?_append_right (Nat.le_refl _)] at ha
        simp only [Nat.sub_self, List.getElem?_cons_zero, Option.getD_some, List.mem_flatMap, List.mem_filter, List.mem_cons] at ha
        obtain ⟨e, ⟨he1, he2⟩, ha⟩ := ha
        have ho : ops[acc.length]? = some o := by have := hl 0; simpa using this.symm
        have hon : S e.on := hS _ o ho hj e (by simpa using he1) he2
        rcases ha with rfl | ha
        · exact hon
        · exact h _ a ha hon
      · rw [List.getD_eq_getElem?_getD, List.getElem?_eq_none (by simp; omega)] at ha
        simp at ha
end Go.Abs
