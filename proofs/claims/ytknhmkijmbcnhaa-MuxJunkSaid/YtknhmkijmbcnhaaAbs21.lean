/- Abs21: the evaluator without a bound on rounds and on the depth of calls. Conditions: none. -/
import Derived.Test.YtknhmkijmbcnhaaAbs17
set_option linter.unusedVariables false
set_option linter.unusedSimpArgs false
namespace Go.Abs
def CallLe (call call' : CallF) : Prop := ∀ f args h r, call f args h = some r → call' f args h = some r
section
variable {c : Ctx} {n : Nat}
/-- An operation asks at most one call. -/
theorem evOp_uses {call : CallF} {fr : AFrame} {op : Op} {h : AHeap} {r : Value × AHeap} (he : evOp c call fr op h = some r) :
    (∀ call', evOp c call' fr op h = some r) ∨ ∃ f args, call f args h = some r ∧ ∀ call', call' f args h = some r → evOp c call' fr op h = some r := by
  by_cases hp : pureOp op = true
  · left; intro call'; unfold evOp at he ⊢; rw [if_pos hp] at he ⊢; exact he
  · cases op
    case call cl =>
      obtain ⟨callee, args, argTypes⟩ := cl
      cases callee with
      | value f =>
        unfold evOp at he
        simp only [hp] at he
        right
        simp only [Bool.false_eq_true, if_false] at he
        cases h1 : evA c fr f with
        | none => simp [h1] at he
        | some v =>
          cases h2 : evL c fr args.toList with
          | none => simp [h1, h2] at he
          | some vs =>
            cases v with
            | func fn first captured =>
              cases fn with
              | func g =>
                simp only [h1, h2] at he
                refine ⟨g, _, he, fun call' hc => ?_⟩
                unfold evOp
                simp only [hp, Bool.false_eq_true, if_false, h1, h2]
                exact hc
              | _ => simp [h1, h2] at he
            | _ => simp [h1, h2] at he
      | invoke r m => unfold evOp at he; simp [hp] at he
      | builtin b =>
        left; intro call'
        unfold evOp at he ⊢
        cases b <;> exact he
    case slice t x lo hi mx => left; intro call'; unfold evOp at he ⊢; cases mx <;> exact he
    case next x b => left; intro call'; unfold evOp at he ⊢; cases b <;> exact he
    all_goals (left; intro call'; unfold evOp at he ⊢; exact he)
theorem evOp_le {call call' : CallF} (hle : CallLe call call') {fr : AFrame} {op : Op} {h : AHeap} {r : Value × AHeap} (he : evOp c call fr op h = some r) : evOp c call' fr op h = some r := by
  rcases evOp_uses he with h1 | ⟨f, args, h1, h2⟩
  · exact h1 call'
  · exact h2 call' (hle _ _ _ _ h1)
theorem evOps_le {call call' : CallF} (hle : CallLe call call') (ops : Array Oper) : ∀ (l : List Oper) (fr : AFrame) (h : AHeap) r, evOps c call n ops l fr h = some r → evOps c call' n ops l fr h = some r
  | [], fr, h, r, he => he
  | o :: l, fr, h, r, he => by
    simp only [evOps] at he ⊢
    split at he
    · rename_i hw
      rw [if_pos hw]
      split at he
      · rename_i hop
        rw [evOp_le hle hop]
        simp only
        split at he
        · rename_i hp; exact evOps_le hle ops l _ _ _ he
        · cases he
      · cases he
    · rename_i hw
      rw [if_neg hw]
      split at he
      · exact evOps_le hle ops l _ _ _ he
      · cases he
theorem evDraw_le {call call' : CallF} (hle : CallLe call call') (ops : Array Oper) (mt : Nat → AFrame → AHeap → AHeap → Bool) : ∀ (l : List Oper) (k : Nat) (fr : AFrame) (h : AHeap) r, evDraw c call n ops mt l k fr h = some r → evDraw c call' n ops mt l k fr h = some r
  | [], k, fr, h, r, he => he
  | o :: l, k, fr, h, r, he => by
    simp only [evDraw] at he ⊢
    split at he
    · rename_i hw
      rw [if_pos hw]
      split at he
      · rename_i hop
        rw [evOp_le hle hop]
        simp only
        split at he
        · rename_i hq
          rw [if_pos hq]
          split at he
          · exact evDraw_le hle ops mt l _ _ _ _ he
          · cases he
        · cases he
      · cases he
    · rename_i hw
      rw [if_neg hw]
      split at he
      · exact evDraw_le hle ops mt l _ _ _ _ he
      · cases he
theorem evRegion_le {call call' : CallF} (hle : CallLe call call') {ops : Array Oper} {draw : Bool} {fr : AFrame} {h : AHeap} {r} (he : evRegion c call n ops draw fr h = some r) : evRegion c call' n ops draw fr h = some r := by
  unfold evRegion at he ⊢
  split at he
  · rename_i hd
    rw [if_pos hd]
    split at he
    · rename_i hc; rw [if_pos hc]; exact evDraw_le hle _ _ _ _ _ _ _ he
    · cases he
  · rename_i hd; rw [if_neg hd]; exact evOps_le hle _ _ _ _ _ he
theorem loopA_le {f g : AFrame → AHeap → CodeR} (hfg : ∀ fr h r, f fr h = some r → g fr h = some r) : ∀ (k k' : Nat) fr h r, k ≤ k' → loopA f k fr h = some r → loopA g k' fr h = some r
  | 0, _, _, _, _, _, he => by simp [loopA] at he
  | k + 1, 0, _, _, _, hk, _ => by omega
  | k + 1, k' + 1, fr, h, r, hk, he => by
    simp only [loopA] at he ⊢
    split at he
    · rename_i fr' h' h1
      rw [hfg _ _ _ h1]
      exact loopA_le hfg k k' _ _ _ (by omega) he
    · rename_i hne
      rw [hfg _ _ _ he]
      obtain ⟨x, fr', h'⟩ := r
      cases x with
      | normal => exact absurd he (hne _ _)
      | exit i => rfl
      | ret => rfl
theorem evC_le {call call' : CallF} (hle : CallLe call call') {k k' : Nat} (hk : k ≤ k') : ∀ (cd : Code) (fr : AFrame) (h : AHeap) r, evC c call n k cd fr h = some r → evC c call' n k' cd fr h = some r := by
  intro cd
  induction cd with
  | skip => intro fr h r he; exact he
  | ret => intro fr h r he; exact he
  | exit id => intro fr h r he; exact he
  | region id ops draw =>
    intro fr h r he
    simp only [evC] at he ⊢
    split at he
    · rename_i hr; rw [evRegion_le hle hr]; exact he
    · cases he
  | seq a b iha ihb =>
    intro fr h r he
    simp only [evC] at he ⊢
    split at he
    · rename_i h1; rw [iha _ _ _ h1]; exact ihb _ _ _ he
    · rename_i hne
      rw [iha _ _ _ he]
      obtain ⟨x, fr', h'⟩ := r
      cases x with
      | normal => exact absurd he (hne _ _)
      | exit i => rfl
      | ret => rfl
  | cond y a b iha ihb =>
    intro fr h r he
    simp only [evC] at he ⊢
    split at he
    · rename_i hy; exact iha _ _ _ he
    · rename_i hy; exact ihb _ _ _ he
    · cases he
  | block id a iha =>
    intro fr h r he
    simp only [evC] at he ⊢
    split at he
    · rename_i h1; rw [iha _ _ _ h1]; exact he
    · rename_i hne
      rw [iha _ _ _ he]
      obtain ⟨x, fr', h'⟩ := r
      cases x with
      | exit i => exact absurd he (hne _ _ _)
      | normal => rfl
      | ret => rfl
  | loop a iha =>
    intro fr h r he
    exact loopA_le iha k k' _ _ _ hk he
  | rangeFunc f ps a b _ _ => intro fr h r he; simp [evC] at he
  | scope a _ => intro fr h r he; simp [evC] at he
  | label l => intro fr h r he; simp [evC] at he
  | goto l => intro fr h r he; simp [evC] at he
  | refuse y => intro fr h r he; simp [evC] at he
theorem evBody_le {call call' : CallF} (hle : CallLe call call') {k k' : Nat} (hk : k ≤ k') {fn : Func} {args : List Value} {h : AHeap} {r} (he : evBody c call k fn args h = some r) : evBody c call' k' fn args h = some r := by
  unfold evBody at he ⊢
  split at he
  · rename_i b hb
    split at he
    · cases he
    · rename_i hn
      rw [if_neg hn]
      split at he
      · cases he
      · rename_i x fr h1 hne hc
        rw [evC_le hle hk _ _ _ _ hc]
        cases x with
        | exit i => exact absurd rfl (hne i)
        | normal => exact he
        | ret => exact he
      · cases he
  · cases he
theorem evF_step (c : Ctx) : ∀ k, CallLe (evF c k) (evF c (k + 1))
  | 0 => fun f args h r he => by simp [evF] at he
  | k + 1 => fun f args h r he => by
    simp only [evF] at he ⊢
    split at he
    · exact he
    · split at he
      · exact evBody_le (evF_step c k) (Nat.le_succ k) he
      · cases he
theorem evF_le (c : Ctx) {k k' : Nat} (h : k ≤ k') : CallLe (evF c k) (evF c k') := by
  obtain ⟨d, rfl⟩ : ∃ d, k' = k + d := ⟨k' - k, by omega⟩
  clear h
  induction d with
  | zero => exact fun _ _ _ _ h => h
  | succ d ih => exact fun f args h r he => evF_step c (k + d) f args h r (ih f args h r he)
end
/-! ### without bounds -/
open Classical in
noncomputable def evU (c : Ctx) : CallF := fun f args h => if hx : ∃ r k, evF c k f args h = some r then some hx.choose else none
theorem evU_of {c : Ctx} {k : Nat} {f : FuncId} {args : List Value} {h : AHeap} {r} (he : evF c k f args h = some r) : evU c f args h = some r := by
  have hx : ∃ r k, evF c k f args h = some r := ⟨r, k, he⟩
  unfold evU
  rw [dif_pos hx]
  obtain ⟨k', hk'⟩ := hx.choose_spec
  have h1 := evF_le c (Nat.le_max_left k k') _ _ _ _ he
  have h2 := evF_le c (Nat.le_max_right k k') _ _ _ _ hk'
  rw [h1] at h2
  exact h2.symm
theorem evU_elim {c : Ctx} {f : FuncId} {args : List Value} {h : AHeap} {r} (he : evU c f args h = some r) : ∃ k, evF c k f args h = some r := by
  unfold evU at he
  split at he
  · rename_i hx
    cases he
    exact hx.choose_spec
  · cases he
open Classical in
noncomputable def loopU (f : AFrame → AHeap → CodeR) (fr : AFrame) (h : AHeap) : CodeR := if hx : ∃ r k, loopA f k fr h = some r then some hx.choose else none
theorem loopU_of {f : AFrame → AHeap → CodeR} {k : Nat} {fr : AFrame} {h : AHeap} {r} (he : loopA f k fr h = some r) : loopU f fr h = some r := by
  have hx : ∃ r k, loopA f k fr h = some r := ⟨r, k, he⟩
  unfold loopU
  rw [dif_pos hx]
  obtain ⟨k', hk'⟩ := hx.choose_spec
  have h1 := loopA_le (fun _ _ _ h => h) k (max k k') _ _ _ (Nat.le_max_left k k') he
  have h2 := loopA_le (fun _ _ _ h => h) k' (max k k') _ _ _ (Nat.le_max_right k k') hk'
  rw [h1] at h2
  exact h2.symm
theorem loopU_elim {f : AFrame → AHeap → CodeR} {fr : AFrame} {h : AHeap} {r} (he : loopU f fr h = some r) : ∃ k, loopA f k fr h = some r := by
  unfold loopU at he
  split at he
  · rename_i hx
    cases he
    exact hx.choose_spec
  · cases he
/-- One round, and the rest. -/
theorem loopU_next {f : AFrame → AHeap → CodeR} {fr fr' : AFrame} {h h' : AHeap} {r} (h1 : f fr h = some (.normal, fr', h')) (h2 : loopU f fr' h' = some r) : loopU f fr h = some r := by
  obtain ⟨k, hk⟩ := loopU_elim h2
  exact loopU_of (k := k + 1) (by simp only [loopA, h1, hk])
/-- The last round. -/
theorem loopU_out {f : AFrame → AHeap → CodeR} {fr fr' : AFrame} {h h' : AHeap} {x : AExit} (h1 : f fr h = some (x, fr', h')) (hx : x ≠ .normal) : loopU f fr h = some (x, fr', h') := by
  refine loopU_of (k := 1) ?_
  simp only [loopA]
  rw [h1]
  cases x with
  | normal => exact absurd rfl hx
  | exit i => rfl
  | ret => rfl
noncomputable def evCU (c : Ctx) (n : Nat) : Code → AFrame → AHeap → CodeR
  | .skip, fr, h => some (.normal, fr, h)
  | .region _ ops draw, fr, h => match evRegion c (evU c) n ops draw fr h with
    | some (fr', h') => some (.normal, fr', h')
    | none => none
  | .seq a b, fr, h => match evCU c n a fr h with
    | some (.normal, fr', h') => evCU c n b fr' h'
    | r => r
  | .cond x a b, fr, h => match evA c fr x with
    | some (.bool true) => evCU c n a fr h
    | some (.bool false) => evCU c n b fr h
    | _ => none
  | .block id a, fr, h => match evCU c n a fr h with
    | some (.exit i, fr', h') => if i = id then some (.normal, fr', h') else some (.exit i, fr', h')
    | r => r
  | .loop a, fr, h => loopU (evCU c n a) fr h
  | .exit id, fr, h => some (.exit id, fr, h)
  | .ret, fr, h => some (.ret, fr, h)
  | _, _, _ => none
section
variable {c : Ctx} {n : Nat}
theorem evOps_lim (ops : Array Oper) : ∀ (l : List Oper) (fr : AFrame) (h : AHeap) r, evOps c (evU c) n ops l fr h = some r → ∃ K, ∀ k, K ≤ k → evOps c (evF c k) n ops l fr h = some r := by
  intro l
  induction l with
  | nil => intro fr h r he; exact ⟨0, fun _ _ => he⟩
  | cons o l ih =>
    intro fr h r he
    simp only [evOps] at he ⊢
    split at he
    · rename_i hw
      simp only [hw, if_true]
      split at he
      · rename_i v h1 hop
        split at he
        · rename_i fr1 hp
          obtain ⟨K, hK⟩ := ih _ _ _ he
          obtain ⟨K2, hK2⟩ : ∃ K2, ∀ k, K2 ≤ k → evOp c (evF c k) fr o.op h = some (v, h1) := by
            rcases evOp_uses hop with g | ⟨f, args, g1, g2⟩
            · exact ⟨0, fun k _ => g _⟩
            · obtain ⟨k0, hk0⟩ := evU_elim g1
              exact ⟨k0, fun k hk => g2 _ (evF_le c hk _ _ _ _ hk0)⟩
          refine ⟨max K K2, fun k hk => ?_⟩
          rw [hK2 k (by omega)]
          simp only [hp]
          exact hK k (by omega)
        · cases he
      · cases he
    · rename_i hw
      simp only [hw, Bool.false_eq_true, if_false]
      split at he
      · rename_i fr1 hp
        obtain ⟨K, hK⟩ := ih _ _ _ he
        exact ⟨K, fun k hk => by exact hK k hk⟩
      · cases he
theorem evDraw_lim (ops : Array Oper) (mt : Nat → AFrame → AHeap → AHeap → Bool) : ∀ (l : List Oper) (i : Nat) (fr : AFrame) (h : AHeap) r, evDraw c (evU c) n ops mt l i fr h = some r → ∃ K, ∀ k, K ≤ k → evDraw c (evF c k) n ops mt l i fr h = some r := by
  intro l
  induction l with
  | nil => intro i fr h r he; exact ⟨0, fun _ _ => he⟩
  | cons o l ih =>
    intro i fr h r he
    simp only [evDraw] at he ⊢
    split at he
    · rename_i hw
      simp only [hw, if_true]
      split at he
      · rename_i v h1 hop
        split at he
        · rename_i hq
          split at he
          · rename_i fr1 hp
            obtain ⟨K, hK⟩ := ih _ _ _ _ he
            obtain ⟨K2, hK2⟩ : ∃ K2, ∀ k, K2 ≤ k → evOp c (evF c k) fr o.op h = some (v, h1) := by
              rcases evOp_uses hop with g | ⟨f, args, g1, g2⟩
              · exact ⟨0, fun k _ => g _⟩
              · obtain ⟨k0, hk0⟩ := evU_elim g1
                exact ⟨k0, fun k hk => g2 _ (evF_le c hk _ _ _ _ hk0)⟩
            refine ⟨max K K2, fun k hk => ?_⟩
            rw [hK2 k (by omega)]
            simp only [hq, if_true, hp]
            exact hK k (by omega)
          · cases he
        · cases he
      · cases he
    · rename_i hw
      simp only [hw, Bool.false_eq_true, if_false]
      split at he
      · rename_i fr1 hp
        obtain ⟨K, hK⟩ := ih _ _ _ _ he
        exact ⟨K, fun k hk => by exact hK k hk⟩
      · cases he
theorem loop_lim {g : AFrame → AHeap → CodeR} {f : Nat → AFrame → AHeap → CodeR} (hm : ∀ k k' fr h r, k ≤ k' → f k fr h = some r → f k' fr h = some r) (hl : ∀ fr h r, g fr h = some r → ∃ K, ∀ k, K ≤ k → f k fr h = some r) :
    ∀ j fr h r, loopA g j fr h = some r → ∃ K, ∀ k, K ≤ k → loopA (f k) k fr h = some r
  | 0, _, _, _, he => by simp [loopA] at he
  | j + 1, fr, h, r, he => by
    simp only [loopA] at he
    split at he
    · rename_i fr' h' h1
      obtain ⟨K, hK⟩ := loop_lim hm hl j _ _ _ he
      obtain ⟨K2, hK2⟩ := hl _ _ _ h1
      refine ⟨max K K2 + 1, fun k hk => ?_⟩
      obtain ⟨k, rfl⟩ : ∃ q, k = q + 1 := ⟨k - 1, by omega⟩
      simp only [loopA]
      rw [hK2 (k + 1) (by omega)]
      simp only
      exact loopA_le (fun a b r hr => hm k (k + 1) a b r (Nat.le_succ k) hr) k k _ _ _ (Nat.le_refl k) (hK k (by omega))
    · rename_i hne
      obtain ⟨K2, hK2⟩ := hl _ _ _ he
      refine ⟨K2 + 1, fun k hk => ?_⟩
      obtain ⟨k, rfl⟩ : ∃ q, k = q + 1 := ⟨k - 1, by omega⟩
      simp only [loopA]
      rw [hK2 (k + 1) (by omega)]
      obtain ⟨x, fr', h'⟩ := r
      cases x with
      | normal => exact absurd he (hne _ _)
      | exit i => rfl
      | ret => rfl
theorem evC_lim : ∀ (cd : Code) (fr : AFrame) (h : AHeap) r, evCU c n cd fr h = some r → ∃ K, ∀ k, K ≤ k → evC c (evF c k) n k cd fr h = some r := by
  intro cd
  induction cd with
  | skip => intro fr h r he; exact ⟨0, fun _ _ => he⟩
  | ret => intro fr h r he; exact ⟨0, fun _ _ => he⟩
  | exit id => intro fr h r he; exact ⟨0, fun _ _ => he⟩
  | region id ops draw =>
    intro fr h r he
    simp only [evCU] at he
    split at he
    · rename_i fr' h' hr
      have : ∃ K, ∀ k, K ≤ k → evRegion c (evF c k) n ops draw fr h = some (fr', h') := by
        unfold evRegion at hr ⊢
        split at hr
        · rename_i hd
          split at hr
          · rename_i hc
            obtain ⟨K, hK⟩ := evDraw_lim _ _ _ _ _ _ _ hr
            exact ⟨K, fun k hk => by rw [if_pos hd, if_pos hc]; exact hK k hk⟩
          · cases hr
        · rename_i hd
          obtain ⟨K, hK⟩ := evOps_lim _ _ _ _ _ hr
          exact ⟨K, fun k hk => by rw [if_neg hd]; exact hK k hk⟩
      obtain ⟨K, hK⟩ := this
      exact ⟨K, fun k hk => by simp only [evC, hK k hk]; exact he⟩
    · cases he
  | seq a b iha ihb =>
    intro fr h r he
    simp only [evCU] at he
    split at he
    · rename_i h1
      obtain ⟨K, hK⟩ := iha _ _ _ h1
      obtain ⟨K2, hK2⟩ := ihb _ _ _ he
      exact ⟨max K K2, fun k hk => by simp only [evC, hK k (by omega)]; exact hK2 k (by omega)⟩
    · rename_i hne
      obtain ⟨K, hK⟩ := iha _ _ _ he
      refine ⟨K, fun k hk => ?_⟩
      simp only [evC, hK k hk]
      obtain ⟨x, fr', h'⟩ := r
      cases x with
      | normal => exact absurd he (hne _ _)
      | exit i => rfl
      | ret => rfl
  | cond y a b iha ihb =>
    intro fr h r he
    simp only [evCU] at he
    split at he
    · rename_i hy
      obtain ⟨K, hK⟩ := iha _ _ _ he
      exact ⟨K, fun k hk => by simp only [evC, hy]; exact hK k hk⟩
    · rename_i hy
      obtain ⟨K, hK⟩ := ihb _ _ _ he
      exact ⟨K, fun k hk => by simp only [evC, hy]; exact hK k hk⟩
    · cases he
  | block id a iha =>
    intro fr h r he
    simp only [evCU] at he
    split at he
    · rename_i h1
      obtain ⟨K, hK⟩ := iha _ _ _ h1
      exact ⟨K, fun k hk => by simp only [evC, hK k hk]; exact he⟩
    · rename_i hne
      obtain ⟨K, hK⟩ := iha _ _ _ he
      refine ⟨K, fun k hk => ?_⟩
      simp only [evC, hK k hk]
      obtain ⟨x, fr', h'⟩ := r
      cases x with
      | exit i => exact absurd he (hne _ _ _)
      | normal => rfl
      | ret => rfl
  | loop a iha =>
    intro fr h r he
    simp only [evCU] at he
    obtain ⟨j, hj⟩ := loopU_elim he
    obtain ⟨K, hK⟩ := loop_lim (f := fun k => evC c (evF c k) n k a) (fun k k' fr h r hk hr => evC_le (evF_le c hk) hk a fr h r hr) iha j _ _ _ hj
    exact ⟨K, fun k hk => by simp only [evC]; exact hK k hk⟩
  | rangeFunc f ps a b _ _ => intro fr h r he; simp [evCU] at he
  | scope a _ => intro fr h r he; simp [evCU] at he
  | label l => intro fr h r he; simp [evCU] at he
  | goto l => intro fr h r he; simp [evCU] at he
  | refuse y => intro fr h r he; simp [evCU] at he
/-- A call: by its function's text. -/
theorem evU_fun {f : FuncId} {fn : Func} {cd : Code} {args : List Value} {h : AHeap} {x : AExit} {fr' : AFrame} {h' : AHeap} {vs : List Value} (hp : c.prim f = none) (hf : c.P.funcs[f]? = some fn) (hb : fn.body = some cd) (hn : (fn.name == "runtime.NumGoroutine") = false)
    (hc : evCU c fn.ntmps cd args h = some (x, fr', h')) (hx : ∀ i, x ≠ .exit i) (hr : resA c.P fr' h' fn.results.toList = some vs) : evU c f args h = some (oneA vs, h') := by
  obtain ⟨K, hK⟩ := evC_lim _ _ _ _ hc
  refine evU_of (k := K + 1) ?_
  simp only [evF, hp, hf, evBody, hb, hn, Bool.false_eq_true, if_false, hK K (Nat.le_refl K)]
  cases x with
  | exit i => exact absurd rfl (hx i)
  | normal => simp only [hr, Option.map_some]
  | ret => simp only [hr, Option.map_some]
theorem evU_prim {f : FuncId} {p : List Value → AHeap → Option (Value × AHeap)} {args : List Value} {h : AHeap} {r} (hp : c.prim f = some p) (he : p args h = some r) : evU c f args h = some r :=
  evU_of (k := 1) (by simp only [evF, hp]; exact he)
end
/-- A law's call. -/
theorem law_sim (c : Ctx) (B : Nat) (hm : c.P.follows .mixedOrders = true) (hp : PrimOK c B) {f : FuncId} (hpf : c.prim f = none) {args args' : List Value} {h h' : AHeap} {v : Value} (he : evU c f args h = some (v, h')) {E : Env} {w : World}
    (s : Sim c.G B E h w) (hargs : LR E args args') (hfree : Free E h h') : Calls c.P f args'.toArray w fun e w' => ∃ E' v', e = .returned v' ∧ Post c.G B E E' h h' w w' ∧ VR E' v v' := by
  obtain ⟨k, hk⟩ := evU_elim he
  rcases fun_sim c B hm hp k f args h v h' hk E w args' s hargs hfree with ⟨_, h1⟩ | ⟨v', w', h1, _⟩
  · exact h1
  · exfalso
    cases k with
    | zero => simp [evF] at hk
    | succ k =>
      simp only [evF, hpf] at hk
      split at hk
      · rename_i fn hfn
        unfold evBody at hk
        split at hk
        · rename_i cd hbody
          split at hk
          · cases hk
          · rename_i hname
            simp only [callFunc, Sem.run_bind, run_program, Result.andThen_ok, hfn] at h1
            rw [if_neg hname] at h1
            simp [hbody] at h1
        · cases hk
      · cases hk
end Go.Abs
