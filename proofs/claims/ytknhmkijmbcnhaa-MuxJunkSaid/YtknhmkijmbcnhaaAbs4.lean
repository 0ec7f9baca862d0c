/- Abs4: the operations that ask nothing of memory: what the evaluator gives is what the model gives. Conditions: none. -/
import Derived.Test.YtknhmkijmbcnhaaAbs3
import Derived.Calls
import Derived.Laws.Strings
set_option linter.unusedVariables false
set_option linter.unusedSimpArgs false
namespace Go.Abs
theorem addr_add (b o k : Nat) : (⟨b, o, none⟩ : Addr).add k = ⟨b, o + k, none⟩ := by
  unfold Addr.add; split <;> simp_all
def FR (E : Env) (n : Nat) (fr : AFrame) (tmps : Array Value) : Prop := n ≤ tmps.size ∧ ∀ t, VR E (fget fr t) (tmps.getD t undef)
def GR (G : Nat → Option Nat) (E : Env) : Prop := ∀ g id, G g = some id → ∃ e, E id = some e ∧ e.blk = g ∧ e.base = 0
theorem fget_fset_same : ∀ (fr : AFrame) (d : Nat) (v : Value), fget (fset fr d v) d = v
  | [], 0, _ => rfl
  | [], d + 1, v => fget_fset_same [] d v
  | _ :: _, 0, _ => rfl
  | _ :: l, d + 1, v => fget_fset_same l d v
theorem fget_nil : ∀ t, fget [] t = undef := fun t => by cases t <;> rfl
theorem fget_fset_ne : ∀ (fr : AFrame) (d t : Nat) (v : Value), t ≠ d → fget (fset fr d v) t = fget fr t
  | [], 0, 0, _, h => absurd rfl h
  | [], 0, t + 1, v, _ => by simp [fset, fget]
  | [], d + 1, 0, v, _ => rfl
  | [], d + 1, t + 1, v, h => by
    have := fget_fset_ne [] d t v (fun e => h (by omega))
    simp only [fset, fget, this]
  | _ :: _, 0, 0, _, h => absurd rfl h
  | _ :: _, 0, t + 1, _, _ => rfl
  | _ :: _, d + 1, 0, _, _ => rfl
  | _ :: l, d + 1, t + 1, v, h => fget_fset_ne l d t v (fun e => h (by omega))
theorem VR.undef (E : Env) : VR E undef undef := VR.plain E 2 _ rfl
section
variable {c : Ctx} {E : Env} {n : Nat} {fr : AFrame} {a : Act}
theorem FR.mono {E' : Env} {tmps : Array Value} (h : FR E n fr tmps) (hE : E.le E') : FR E' n fr tmps := ⟨h.1, fun t => (h.2 t).mono hE⟩
theorem evA_sim (hf : FR E n fr a.tmps) (hg : GR c.G E) {x : Operand} {v : Value} (h : evA c fr x = some v) : VR E v (a.eval x) := by
  cases x with
  | tmp t => simp only [evA, Option.some.injEq] at h; subst h; exact hf.2 t
  | const u =>
    simp only [evA] at h
    split at h
    · rename_i hp; cases h; exact VR.plain E 4 _ hp
    · cases h
  | global g =>
    simp only [evA, Option.map_eq_some_iff] at h
    obtain ⟨id, h1, rfl⟩ := h
    obtain ⟨e, h2, rfl, h3⟩ := hg g id h1
    have := VR.ptr (o := 0) h2
    rw [h3] at this
    exact this
  | func f => simp only [evA, Option.some.injEq] at h; subst h; exact VR.func' (.func f) (LR.nil E) (LR.nil E)
theorem evL_sim (hf : FR E n fr a.tmps) (hg : GR c.G E) : ∀ {l : List Operand} {vs : List Value}, evL c fr l = some vs → LR E vs (l.map a.eval)
  | [], vs, h => by simp only [evL, Option.some.injEq] at h; subst h; exact LR.nil E
  | x :: l, vs, h => by
    simp only [evL] at h
    split at h
    · rename_i v us h1 h2; cases h; exact LR.cons (evA_sim hf hg h1) (evL_sim hf hg h2)
    · cases h
end
theorem run_under {P : Program} {t : TypeId} {d : TypeDesc} (h : P.underlying t = some d) (w : World) : (underlying t).run P w = .ok d w := by
  simp [underlying, h]
theorem run_size {P : Program} {t : TypeId} {n : Nat} (h : sizeA P t = some n) (w : World) : (sizeOf t).run P w = .ok n w := by
  simp only [sizeA, Option.map_eq_some_iff] at h
  obtain ⟨i, h1, rfl⟩ := h
  simp [sizeOf, typeInfo, h1]
theorem run_agg {P : Program} {t : TypeId} {b : Bool} (h : isAggA P t = some b) (w : World) : (isAgg t).run P w = .ok b w := by
  unfold isAggA at h
  cases hu : P.underlying t with
  | none => simp [hu] at h
  | some d =>
    rw [hu] at h
    simp only [isAgg, Sem.run_bind, run_under hu, Result.andThen_ok]
    cases d <;> simp_all
theorem qrun_sound {α : Type} {P : Program} : ∀ {s : Sem α} {x : α}, qrun P s = some x → ∀ w, s.run P w = .ok x w
  | .pure a, x, h, w => by simp only [qrun, Option.some.injEq] at h; subst h; rfl
  | .program k, x, h, w => by simp only [qrun] at h; exact qrun_sound (s := k P) h w
  | .mark m k, x, h, w => by simp only [qrun] at h; exact qrun_sound (s := k) h w
  | .load .., x, h, w => by simp [qrun] at h
  | .store .., x, h, w => by simp [qrun] at h
  | .new .., x, h, w => by simp [qrun] at h
  | .shape .., x, h, w => by simp [qrun] at h
  | .freeze .., x, h, w => by simp [qrun] at h
  | .frozen .., x, h, w => by simp [qrun] at h
  | .getObj .., x, h, w => by simp [qrun] at h
  | .setObj .., x, h, w => by simp [qrun] at h
  | .choose .., x, h, w => by simp [qrun] at h
  | .sys .., x, h, w => by simp [qrun] at h
  | .halt .., x, h, w => by simp [qrun] at h
/-! ### arithmetic and comparisons -/
theorem toList_data (s : ByteArray) : s.toList = s.data.toList := ByteArray.toList_eq s
theorem str_eq (a b : ByteArray) : (a.toList == b.toList) = decide (a = b) := by
  rw [toList_data, toList_data, Bool.eq_iff_iff]
  simp only [beq_iff_eq, decide_eq_true_eq]
  exact ⟨fun h => by cases a; cases b; simp_all [Array.toList_inj], fun h => by rw [h]⟩
theorem str_eq' (a b : ByteArray) : (a.data.toList == b.data.toList) = decide (a = b) := by
  rw [← toList_data, ← toList_data, str_eq]
theorem eqGuard_int (P : Program) (op : BinOp) (t : TypeId) (x y : Operand) (k k' : IntKind) (a b : Int) (w : World) : (eqGuard op t x y (.int k a) (.int k' b)).run P w = .ok () w := by
  cases op <;> rfl
theorem eqGuard_str (P : Program) (op : BinOp) (t : TypeId) (x y : Operand) (a b : ByteArray) (w : World) : (eqGuard op t x y (.string a) (.string b)).run P w = .ok () w := by
  cases op <;> rfl
theorem eqGuard_bool (P : Program) (op : BinOp) (t : TypeId) (x y : Operand) (a b : Bool) (w : World) : (eqGuard op t x y (.bool a) (.bool b)).run P w = .ok () w := by
  cases op <;> rfl
theorem intBin_run {P : Program} {op : BinOp} {t : TypeId} {k : IntKind} {x y : Int} {v : Value} (h : intBinA op k x y = some v) (hs : op ≠ .shl) (hr : op ≠ .shr) (w : World) :
    (binOp op t (.int k x) (.int k y)).run P w = .ok v w := by
  cases op
  case quo => 
    simp only [intBinA] at h
    split at h
    · cases h
    · rename_i hy; cases h; simp [binOp, Op.intDiv, hy]
  case rem =>
    simp only [intBinA] at h
    split at h
    · cases h
    · rename_i hy; cases h; simp [binOp, Op.intDiv, hy]
  all_goals simp_all [intBinA, binOp, Op.intArith, Op.intBits, Op.intCmp]
  all_goals (subst h; first | rfl | (congr 1; rw [Bool.eq_iff_iff]; simp))
theorem shift_run {P : Program} {op : BinOp} {t : TypeId} {k k' : IntKind} {x y : Int} {v : Value} (h : shiftA op k x y = some v) (ho : op = .shl ∨ op = .shr) (w : World) :
    (binOp op t (.int k x) (.int k' y)).run P w = .ok v w := by
  unfold shiftA at h
  split at h
  · cases h
  · rename_i hy
    rcases ho with rfl | rfl
    · simp at h; subst h; simp [binOp, Op.shift, hy]
    · simp at h; subst h; simp [binOp, Op.shift, hy]
theorem str_run {P : Program} {op : BinOp} {t : TypeId} {x y : ByteArray} {v : Value} (h : strBinA op x y = some v) (w : World) :
    (binOp op t (.string x) (.string y)).run P w = .ok v w := by
  cases op
  case add =>
    simp only [strBinA] at h
    split at h
    · rename_i hy; cases h; have h2 : ¬ ((x.size + y.size : Nat) : Int) > IntKind.i64.max := by simp only [IntKind.max, IntKind.signed, IntKind.bits]; omega
      simp only [binOp, Op.stringOp]; rw [if_neg h2]; rfl
    · cases h
  all_goals (simp only [strBinA, Option.some.injEq, reduceCtorEq] at h)
  all_goals (subst h; simp only [binOp, Op.stringOp, lessA, toList_data, str_eq']; rfl)
theorem equalIn_bool {P : Program} {t : TypeId} (hu : P.underlying t = some .bool) (d : Nat) (x y : Bool) (w : World) : (Op.equalIn (d + 1) t (.bool x) (.bool y)).run P w = .ok (x == y) w := by
  simp only [Op.equalIn, Sem.run_bind, run_under hu, Result.andThen_ok, Sem.run_pure]
theorem run_eql_of {P : Program} {t : TypeId} {x y : Value} {b : Bool} {w : World} (h : (Op.equal t x y).run P w = .ok b w) : ((do pure (.bool (← Op.equal t x y))) : Sem Value).run P w = .ok (.bool b) w := by
  simp only [Sem.run_bind, h, Result.andThen_ok, Sem.run_pure]
theorem run_neq_of {P : Program} {t : TypeId} {x y : Value} {b : Bool} {w : World} (h : (Op.equal t x y).run P w = .ok b w) : ((do pure (.bool (!(← Op.equal t x y)))) : Sem Value).run P w = .ok (.bool (!b)) w := by
  simp only [Sem.run_bind, h, Result.andThen_ok, Sem.run_pure]
theorem bool_run {P : Program} {op : BinOp} {t : TypeId} {x y : Bool} {v : Value} (ht : isBoolT P t = true) (h : (match op with | .eql => some (Value.bool (x == y)) | .neq => some (.bool (!(x == y))) | _ => none) = some v) (w : World) :
    (binOp op t (.bool x) (.bool y)).run P w = .ok v w := by
  have hu : P.underlying t = some .bool := by
    unfold isBoolT at ht
    split at ht
    · assumption
    · cases ht
  have he : (Op.equal t (.bool x) (.bool y)).run P w = .ok (x == y) w := equalIn_bool hu 9999 x y w
  cases op <;> simp only [Option.some.injEq, reduceCtorEq] at h
  · subst h; exact run_eql_of he
  · subst h; exact run_neq_of he
/-- Against nil. -/
theorem nil_equal {P : Program} {t : TypeId} {x y : Value} {b : Bool} (hx : nilType P t x = true) (hy : nilType P t y = true)
    (h : (match nilA x, nilA y with | some true, some b => some b | some false, some true => some false | _, _ => none) = some b) (w : World) : (Op.equal t x y).run P w = .ok b w := by
  show (Op.equalIn (9999 + 1) t x y).run P w = _
  generalize 9999 = d
  unfold nilType at hx hy
  cases hu : P.underlying t with
  | none => simp [hu] at hx
  | some u =>
    rw [hu] at hx hy
    simp only [Op.equalIn, Sem.run_bind, run_under hu, Result.andThen_ok]
    cases u <;> cases x <;> simp only [Bool.false_eq_true] at hx <;> cases y <;> simp only [Bool.false_eq_true] at hy
    case pointer a b => cases a <;> cases b <;> simp_all [nilA]
    case slice a n m b n' m' => cases a <;> cases b <;> simp_all [nilA]
    all_goals simp_all [nilA]
theorem VR.nilA_eq {E : Env} {x x' : Value} (h : VR E x x') : nilA x' = nilA x := by cases h <;> rfl
theorem VR.nilType_eq {E : Env} {P : Program} {t : TypeId} {x x' : Value} (h : VR E x x') : nilType P t x' = nilType P t x := by
  unfold nilType
  cases P.underlying t with
  | none => rfl
  | some d => cases d <;> cases h <;> rfl
theorem eqGuard_nil {P : Program} {t : TypeId} {ox oy : Operand} {x y : Value} (op : BinOp) (hx : nilType P t x = true) (hy : nilType P t y = true) (hc : isConstA ox = true ∨ isConstA oy = true) (w : World) :
    (eqGuard op t ox oy x y).run P w = .ok () w := by
  unfold nilType at hx hy
  cases hu : P.underlying t with
  | none => simp [hu] at hx
  | some u =>
    rw [hu] at hx hy
    cases u <;> cases x <;> simp only [Bool.false_eq_true] at hx <;> cases y <;> simp only [Bool.false_eq_true] at hy
    case interface.nilIface.nilIface =>
      cases ox <;> cases oy <;> first | (simp [isConstA] at hc; done) | (cases op <;> rfl)
    all_goals (unfold eqGuard; cases op <;> rfl)
theorem intBin_vr {E : Env} {op : BinOp} {k : IntKind} {x y : Int} {v : Value} (h : intBinA op k x y = some v) : VR E v v := by
  unfold intBinA at h
  cases op <;> simp only [Option.some.injEq, reduceCtorEq] at h
  all_goals first
    | (subst h; first | exact .int _ _ | exact .bool _)
    | (split at h <;> first | (cases h; done) | (cases h; exact .int _ _))
theorem shift_vr {E : Env} {op : BinOp} {k : IntKind} {x y : Int} {v : Value} (h : shiftA op k x y = some v) : VR E v v := by
  unfold shiftA at h
  split at h
  · cases h
  · cases op <;> simp only [Option.some.injEq, reduceCtorEq] at h
    all_goals (subst h; exact .int _ _)
theorem strBin_vr {E : Env} {op : BinOp} {x y : ByteArray} {v : Value} (h : strBinA op x y = some v) : VR E v v := by
  unfold strBinA at h
  cases op <;> simp only [Option.some.injEq, reduceCtorEq] at h
  all_goals first
    | (subst h; exact .bool _)
    | (split at h <;> first | (cases h; done) | (cases h; exact .string _))
theorem eqNil_sim {E : Env} {P : Program} {op : BinOp} {t : TypeId} {ox oy : Operand} {x y x' y' v : Value} (hx : VR E x x') (hy : VR E y y')
    (h : (match op with | .eql => (eqNilA P t (isConstA ox) (isConstA oy) x y).map fun b => Value.bool b | .neq => (eqNilA P t (isConstA ox) (isConstA oy) x y).map fun b => .bool (!b) | _ => none) = some v) (w : World) :
    (do eqGuard op t ox oy x' y'; binOp op t x' y' : Sem Value).run P w = .ok v w ∧ VR E v v := by
  have key : ∀ b, eqNilA P t (isConstA ox) (isConstA oy) x y = some b → (Op.equal t x' y').run P w = .ok b w ∧ (eqGuard op t ox oy x' y').run P w = .ok () w ∧ nilType P t x' = true ∧ nilType P t y' = true := by
    intro b hb
    unfold eqNilA at hb
    split at hb
    · rename_i hh
      obtain ⟨h1, h2, h3⟩ := hh
      rw [← hx.nilType_eq] at h1
      rw [← hy.nilType_eq] at h2
      rw [← hx.nilA_eq, ← hy.nilA_eq] at hb
      exact ⟨nil_equal h1 h2 hb w, eqGuard_nil op h1 h2 h3 w, h1, h2⟩
    · cases hb
  cases op <;> simp only [Option.map_eq_some_iff, reduceCtorEq] at h
  all_goals
    obtain ⟨b, hb, rfl⟩ := h
    obtain ⟨h1, h2, h3, h4⟩ := key b hb
    refine ⟨?_, .bool _⟩
    simp only [Sem.run_bind, h2, Result.andThen_ok]
    have hsh : ∀ (z : Value), nilType P t z = true → (∀ k n, z ≠ .int k n) ∧ (∀ k n, z ≠ .float k n) ∧ (∀ k n m, z ≠ .complex k n m) ∧ (∀ s, z ≠ .string s) := by
      intro z hz
      unfold nilType at hz
      refine ⟨?_, ?_, ?_, ?_⟩ <;> (intros; intro he; subst he; cases hu : P.underlying t <;> simp_all)
    clear h2
  · have hb' : binOp .eql t x' y' = (do pure (.bool (← Op.equal t x' y'))) := by
      obtain ⟨a1, a2, a3, a4⟩ := hsh x' h3
      cases x' <;> first | rfl | (exact absurd rfl (a1 _ _)) | (exact absurd rfl (a2 _ _)) | (exact absurd rfl (a3 _ _ _)) | (exact absurd rfl (a4 _))
    rw [hb']; exact run_eql_of h1
  · have hb' : binOp .neq t x' y' = (do pure (.bool (!(← Op.equal t x' y')))) := by
      obtain ⟨a1, a2, a3, a4⟩ := hsh x' h3
      cases x' <;> first | rfl | (exact absurd rfl (a1 _ _)) | (exact absurd rfl (a2 _ _)) | (exact absurd rfl (a3 _ _ _)) | (exact absurd rfl (a4 _))
    rw [hb']; exact run_neq_of h1
end Go.Abs
