/- Abs22: rules to reason about the evaluator: weakest preconditions of operations, regions, code and calls. Conditions: none. -/
import Derived.Test.YtknhmkijmbcnhaaAbs21
set_option linter.unusedVariables false
set_option linter.unusedSimpArgs false
namespace Go.Abs
/-- A mark: simp does not go into what a later argument's type speaks of. -/
@[reducible] def TokT {α : Sort _} (_ : α) : Type := Unit
/-- A call of f comes to a value and a heap of which Q holds. -/
def FW (c : Ctx) (f : FuncId) (args : List Value) (h : AHeap) (Q : Value → AHeap → Prop) (_ : TokT Q := ()) : Prop := ∃ v h', evU c f args h = some (v, h') ∧ Q v h'
theorem FW.mono {c : Ctx} {f : FuncId} {args : List Value} {h : AHeap} {Q Q' : Value → AHeap → Prop} (hq : FW c f args h Q) (h1 : ∀ v h', Q v h' → Q' v h') : FW c f args h Q' :=
  let ⟨v, h', he, hp⟩ := hq
  ⟨v, h', he, h1 v h' hp⟩
def someP {α : Type} (x : Option α) (K : α → Prop) (_ : TokT K := ()) : Prop := ∃ v, x = some v ∧ K v
theorem someP_some {α : Type} (v : α) (K : α → Prop) : someP (some v) K ↔ K v := ⟨fun ⟨_, h, hk⟩ => by cases h; exact hk, fun h => ⟨v, rfl, h⟩⟩
theorem someP_none {α : Type} (K : α → Prop) : someP none K ↔ False := ⟨fun ⟨_, h, _⟩ => (by cases h), False.elim⟩
/-- An operation: what it yields. -/
def OW (c : Ctx) (fr : AFrame) (op : Op) (h : AHeap) (K : Value → AHeap → Prop) : Prop := someP (evOp c (evU c) fr op h) fun r => K r.1 r.2
def PW (n : Nat) (fr : AFrame) (dst : Option Tmp) (v : Value) (K : AFrame → Prop) : Prop :=
  match dst with
  | none => K fr
  | some d => d < n ∧ K (fset fr d v)
theorem PW_iff {n : Nat} {fr : AFrame} {dst : Option Tmp} {v : Value} {K : AFrame → Prop} : PW n fr dst v K ↔ someP (putA n fr dst v) K := by
  unfold PW putA
  cases dst with
  | none => simp [someP_some]
  | some d =>
    simp only
    split
    · rename_i h; simp [someP_some, h]
    · rename_i h; simp [someP_none, h]
def RW (c : Ctx) (n : Nat) (ops : Array Oper) (Q : AFrame → AHeap → Prop) : List Oper → AFrame → AHeap → Prop
  | [], fr, h => Q fr h
  | o :: l, fr, h => if wantA ops fr o = true then OW c fr o.op h fun v h' => PW n fr o.dst v fun fr' => RW c n ops Q l fr' h' else PW n fr o.dst undef fun fr' => RW c n ops Q l fr' h
def RWD (c : Ctx) (n : Nat) (ops : Array Oper) (mt : Nat → AFrame → AHeap → AHeap → Bool) (Q : AFrame → AHeap → Prop) : List Oper → Nat → AFrame → AHeap → Prop
  | [], _, fr, h => Q fr h
  | o :: l, k, fr, h => if wantA ops fr o = true then OW c fr o.op h fun v h' => (pureOp o.op = true ∨ extOp o.op = true ∨ mt k fr h h' = true ∨ h'.take h.length = h) ∧ PW n fr o.dst v fun fr' => RWD c n ops mt Q l (k + 1) fr' h'
    else PW n fr o.dst undef fun fr' => RWD c n ops mt Q l (k + 1) fr' h
theorem RW_sound {c : Ctx} {n : Nat} {ops : Array Oper} {Q : AFrame → AHeap → Prop} : ∀ (l : List Oper) (fr : AFrame) (h : AHeap), RW c n ops Q l fr h → ∃ fr' h', evOps c (evU c) n ops l fr h = some (fr', h') ∧ Q fr' h'
  | [], fr, h, hq => ⟨fr, h, rfl, hq⟩
  | o :: l, fr, h, hq => by
    simp only [RW] at hq
    simp only [evOps]
    split at hq
    · rename_i hw
      obtain ⟨⟨v, h1⟩, hop, hp⟩ := hq
      obtain ⟨fr1, hp1, hp2⟩ := PW_iff.1 hp
      obtain ⟨fr', h', he, hQ⟩ := RW_sound l fr1 h1 hp2
      exact ⟨fr', h', by rw [if_pos hw, hop]; simp only [hp1]; exact he, hQ⟩
    · rename_i hw
      obtain ⟨fr1, hp1, hp2⟩ := PW_iff.1 hq
      obtain ⟨fr', h', he, hQ⟩ := RW_sound l fr1 h hp2
      exact ⟨fr', h', by rw [if_neg hw]; simp only [hp1]; exact he, hQ⟩
theorem RWD_sound {c : Ctx} {n : Nat} {ops : Array Oper} {mt : Nat → AFrame → AHeap → AHeap → Bool} {Q : AFrame → AHeap → Prop} : ∀ (l : List Oper) (k : Nat) (fr : AFrame) (h : AHeap), RWD c n ops mt Q l k fr h → ∃ fr' h', evDraw c (evU c) n ops mt l k fr h = some (fr', h') ∧ Q fr' h'
  | [], k, fr, h, hq => ⟨fr, h, rfl, hq⟩
  | o :: l, k, fr, h, hq => by
    simp only [RWD] at hq
    simp only [evDraw]
    split at hq
    · rename_i hw
      obtain ⟨⟨v, h1⟩, hop, hx, hp⟩ := hq
      obtain ⟨fr1, hp1, hp2⟩ := PW_iff.1 hp
      obtain ⟨fr', h', he, hQ⟩ := RWD_sound l (k + 1) fr1 h1 hp2
      refine ⟨fr', h', ?_, hQ⟩
      rw [if_pos hw, hop]
      have hc : (pureOp o.op || extOp o.op || mt k fr h h1 || decide (h1.take h.length = h)) = true := by
        simp only [Bool.or_eq_true, decide_eq_true_eq]
        rcases hx with hx | hx | hx | hx
        · exact .inl (.inl (.inl hx))
        · exact .inl (.inl (.inr hx))
        · exact .inl (.inr hx)
        · exact .inr hx
      simp only [hc, if_true, hp1]
      exact he
    · rename_i hw
      obtain ⟨fr1, hp1, hp2⟩ := PW_iff.1 hq
      obtain ⟨fr', h', he, hQ⟩ := RWD_sound l (k + 1) fr1 h hp2
      exact ⟨fr', h', by rw [if_neg hw]; simp only [hp1]; exact he, hQ⟩
def thenQ (K : AFrame → AHeap → Prop) (Q : AExit → AFrame → AHeap → Prop) : AExit → AFrame → AHeap → Prop
  | .normal, fr, h => K fr h
  | .exit i, fr, h => Q (.exit i) fr h
  | .ret, fr, h => Q .ret fr h
def blockQ (id : Nat) (Q : AExit → AFrame → AHeap → Prop) : AExit → AFrame → AHeap → Prop
  | .normal, fr, h => Q .normal fr h
  | .exit i, fr, h => if i = id then Q .normal fr h else Q (.exit i) fr h
  | .ret, fr, h => Q .ret fr h
def CW (c : Ctx) (fr : AFrame) (x : Operand) (T F : Prop) : Prop :=
  match evA c fr x with
  | some (.bool b) => if b = true then T else F
  | _ => False
def LW (c : Ctx) (n : Nat) (a : Code) (Q : AExit → AFrame → AHeap → Prop) (fr : AFrame) (h : AHeap) : Prop := ∃ x fr' h', loopU (evCU c n a) fr h = some (x, fr', h') ∧ Q x fr' h'
def DW (ops : Array Oper) (p : Prop) : Prop := chkA ops = true ∧ p
def AW0 (c : Ctx) (n : Nat) : Code → (AExit → AFrame → AHeap → Prop) → AFrame → AHeap → Prop
  | .skip, Q, fr, h => Q .normal fr h
  | .region _ ops draw, Q, fr, h => if draw = true then DW ops (RWD c n ops (mtF c ops) (Q .normal) ops.toList 0 fr h) else RW c n ops (Q .normal) ops.toList fr h
  | .seq a b, Q, fr, h => AW0 c n a (thenQ (AW0 c n b Q) Q) fr h
  | .cond x a b, Q, fr, h => CW c fr x (AW0 c n a Q fr h) (AW0 c n b Q fr h)
  | .block id a, Q, fr, h => AW0 c n a (blockQ id Q) fr h
  | .loop a, Q, fr, h => LW c n a Q fr h
  | .exit id, Q, fr, h => Q (.exit id) fr h
  | .ret, Q, fr, h => Q .ret fr h
  | _, _, _, _ => False
/-- The weakest precondition of code. -/
def AW (c : Ctx) (n : Nat) (cd : Code) (Q : AExit → AFrame → AHeap → Prop) (fr : AFrame) (h : AHeap) : Prop := AW0 c n cd Q fr h
theorem AW_sound {c : Ctx} {n : Nat} : ∀ (cd : Code) (Q : AExit → AFrame → AHeap → Prop) (fr : AFrame) (h : AHeap), AW c n cd Q fr h → ∃ x fr' h', evCU c n cd fr h = some (x, fr', h') ∧ Q x fr' h' := by
  intro cd
  induction cd with
  | skip => intro Q fr h hq; exact ⟨_, _, _, rfl, hq⟩
  | ret => intro Q fr h hq; exact ⟨_, _, _, rfl, hq⟩
  | exit id => intro Q fr h hq; exact ⟨_, _, _, rfl, hq⟩
  | region id ops draw =>
    intro Q fr h hq
    simp only [AW, AW0] at hq
    split at hq
    · rename_i hd
      obtain ⟨hc, hr⟩ := hq
      obtain ⟨fr', h', he, hQ⟩ := RWD_sound _ _ _ _ hr
      exact ⟨.normal, fr', h', by simp only [evCU, evRegion, if_pos hd, if_pos hc, he], hQ⟩
    · rename_i hd
      obtain ⟨fr', h', he, hQ⟩ := RW_sound _ _ _ hq
      exact ⟨.normal, fr', h', by simp only [evCU, evRegion, if_neg hd, he], hQ⟩
  | seq a b iha ihb =>
    intro Q fr h hq
    obtain ⟨x, fr', h', he, hQ⟩ := iha _ _ _ hq
    cases x with
    | normal =>
      obtain ⟨x2, fr2, h2, he2, hQ2⟩ := ihb _ _ _ hQ
      exact ⟨x2, fr2, h2, by simp only [evCU, he]; exact he2, hQ2⟩
    | exit i => exact ⟨_, _, _, by simp only [evCU, he], hQ⟩
    | ret => exact ⟨_, _, _, by simp only [evCU, he], hQ⟩
  | cond y a b iha ihb =>
    intro Q fr h hq
    simp only [AW, AW0, CW] at hq
    split at hq
    · rename_i t ht
      cases t with
      | true =>
        obtain ⟨x, fr', h', he, hQ⟩ := iha _ _ _ (by simpa [AW] using hq)
        exact ⟨x, fr', h', by simp only [evCU, ht, he], hQ⟩
      | false =>
        obtain ⟨x, fr', h', he, hQ⟩ := ihb _ _ _ (by simpa [AW] using hq)
        exact ⟨x, fr', h', by simp only [evCU, ht, he], hQ⟩
    · exact hq.elim
  | block id a iha =>
    intro Q fr h hq
    obtain ⟨x, fr', h', he, hQ⟩ := iha _ _ _ hq
    cases x with
    | normal => exact ⟨_, _, _, by simp only [evCU, he], hQ⟩
    | exit i =>
      simp only [blockQ] at hQ
      split at hQ
      · rename_i hi; exact ⟨.normal, fr', h', by simp only [evCU, he, if_pos hi], hQ⟩
      · rename_i hi; exact ⟨.exit i, fr', h', by simp only [evCU, he, if_neg hi], hQ⟩
    | ret => exact ⟨_, _, _, by simp only [evCU, he], hQ⟩
  | loop a iha =>
    intro Q fr h hq
    exact hq
  | rangeFunc f ps a b _ _ => intro Q fr h hq; exact absurd hq (by simp [AW, AW0])
  | scope a _ => intro Q fr h hq; exact absurd hq (by simp [AW, AW0])
  | label l => intro Q fr h hq; exact absurd hq (by simp [AW, AW0])
  | goto l => intro Q fr h hq; exact absurd hq (by simp [AW, AW0])
  | refuse y => intro Q fr h hq; exact absurd hq (by simp [AW, AW0])
/-- A loop, by an invariant that bears a number which each round lowers. -/
theorem LW_rule {c : Ctx} {n : Nat} {a : Code} {Q : AExit → AFrame → AHeap → Prop} (I : Nat → AFrame → AHeap → Prop)
    (step : ∀ m fr h, I m fr h → AW c n a (thenQ (fun fr' h' => ∃ m', m' < m ∧ I m' fr' h') Q) fr h) : ∀ (m : Nat) (fr : AFrame) (h : AHeap), I m fr h → LW c n a Q fr h := by
  intro m
  induction m using Nat.strongRecOn with
  | _ m ih =>
    intro fr h hi
    obtain ⟨x, fr', h', he, hQ⟩ := AW_sound _ _ _ _ (step m fr h hi)
    cases x with
    | normal =>
      obtain ⟨m', hlt, hi'⟩ := hQ
      obtain ⟨x2, fr2, h2, he2, hQ2⟩ := ih m' hlt fr' h' hi'
      exact ⟨x2, fr2, h2, loopU_next he he2, hQ2⟩
    | exit i => exact ⟨_, _, _, loopU_out he (by simp), hQ⟩
    | ret => exact ⟨_, _, _, loopU_out he (by simp), hQ⟩
theorem AW_mono {c : Ctx} {n : Nat} : ∀ (cd : Code) (Q Q' : AExit → AFrame → AHeap → Prop) (fr : AFrame) (h : AHeap), (∀ x fr h, Q x fr h → Q' x fr h) → AW c n cd Q fr h → AW c n cd Q' fr h := by
  intro cd
  induction cd with
  | skip => intro Q Q' fr h hq h1; exact hq _ _ _ h1
  | ret => intro Q Q' fr h hq h1; exact hq _ _ _ h1
  | exit id => intro Q Q' fr h hq h1; exact hq _ _ _ h1
  | region id ops draw =>
    intro Q Q' fr h hq h1
    have key : ∀ (l : List Oper) fr h, RW c n ops (Q .normal) l fr h → RW c n ops (Q' .normal) l fr h := by
      intro l
      induction l with
      | nil => intro fr h hr; exact hq _ _ _ hr
      | cons o l ih =>
        intro fr h hr
        simp only [RW] at hr ⊢
        split at hr
        · rename_i hw
          rw [if_pos hw]
          obtain ⟨r, hop, hp⟩ := hr
          obtain ⟨fr1, hp1, hp2⟩ := PW_iff.1 hp
          exact ⟨r, hop, PW_iff.2 ⟨fr1, hp1, ih _ _ hp2⟩⟩
        · rename_i hw
          rw [if_neg hw]
          obtain ⟨fr1, hp1, hp2⟩ := PW_iff.1 hr
          exact PW_iff.2 ⟨fr1, hp1, ih _ _ hp2⟩
    have key2 : ∀ (mt : Nat → AFrame → AHeap → AHeap → Bool) (l : List Oper) k fr h, RWD c n ops mt (Q .normal) l k fr h → RWD c n ops mt (Q' .normal) l k fr h := by
      intro mt l
      induction l with
      | nil => intro k fr h hr; exact hq _ _ _ hr
      | cons o l ih =>
        intro k fr h hr
        simp only [RWD] at hr ⊢
        split at hr
        · rename_i hw
          rw [if_pos hw]
          obtain ⟨r, hop, hx, hp⟩ := hr
          obtain ⟨fr1, hp1, hp2⟩ := PW_iff.1 hp
          exact ⟨r, hop, hx, PW_iff.2 ⟨fr1, hp1, ih _ _ _ hp2⟩⟩
        · rename_i hw
          rw [if_neg hw]
          obtain ⟨fr1, hp1, hp2⟩ := PW_iff.1 hr
          exact PW_iff.2 ⟨fr1, hp1, ih _ _ _ hp2⟩
    simp only [AW, AW0] at h1 ⊢
    split at h1
    · rename_i hd; rw [if_pos hd]; exact ⟨h1.1, key2 _ _ _ _ _ h1.2⟩
    · rename_i hd; rw [if_neg hd]; exact key _ _ _ h1
  | seq a b iha ihb =>
    intro Q Q' fr h hq h1
    refine iha _ _ fr h (fun x fr h hx => ?_) h1
    cases x with
    | normal => exact ihb _ _ _ _ hq hx
    | exit i => exact hq _ _ _ hx
    | ret => exact hq _ _ _ hx
  | cond y a b iha ihb =>
    intro Q Q' fr h hq h1
    simp only [AW, AW0, CW] at h1 ⊢
    split at h1
    · split at h1
      · rename_i ht; rw [if_pos ht]; exact iha _ _ _ _ hq h1
      · rename_i ht; rw [if_neg ht]; exact ihb _ _ _ _ hq h1
    · exact h1.elim
  | block id a iha =>
    intro Q Q' fr h hq h1
    refine iha _ _ fr h (fun x fr h hx => ?_) h1
    cases x with
    | normal => exact hq _ _ _ hx
    | exit i =>
      simp only [blockQ] at hx ⊢
      split at hx
      · rename_i hi; rw [if_pos hi]; exact hq _ _ _ hx
      · rename_i hi; rw [if_neg hi]; exact hq _ _ _ hx
    | ret => exact hq _ _ _ hx
  | loop a iha =>
    intro Q Q' fr h hq h1
    obtain ⟨x, fr', h', he, hQ⟩ := h1
    exact ⟨x, fr', h', he, hq _ _ _ hQ⟩
  | rangeFunc f ps a b _ _ => intro Q Q' fr h hq h1; exact absurd h1 (by simp [AW, AW0])
  | scope a _ => intro Q Q' fr h hq h1; exact absurd h1 (by simp [AW, AW0])
  | label l => intro Q Q' fr h hq h1; exact absurd h1 (by simp [AW, AW0])
  | goto l => intro Q Q' fr h hq h1; exact absurd h1 (by simp [AW, AW0])
  | refuse y => intro Q Q' fr h hq h1; exact absurd h1 (by simp [AW, AW0])
/-- A cut between two pieces of code. -/
theorem AW_cut {c : Ctx} {n : Nat} {a b : Code} {Q : AExit → AFrame → AHeap → Prop} {fr : AFrame} {h : AHeap} (R : AFrame → AHeap → Prop) (h1 : AW c n a (thenQ R Q) fr h) (h2 : ∀ fr h, R fr h → AW c n b Q fr h) : AW c n (.seq a b) Q fr h := by
  refine AW_mono a _ _ fr h (fun x fr h hx => ?_) h1
  cases x with
  | normal => exact h2 _ _ hx
  | exit i => exact hx
  | ret => exact hx
/-- What a function's body has to come to. -/
def retQ (c : Ctx) (rs : List ResultVar) (Q : Value → AHeap → Prop) : AExit → AFrame → AHeap → Prop
  | .normal, fr, h => someP (resA c.P fr h rs) fun vs => Q (oneA vs) h
  | .ret, fr, h => someP (resA c.P fr h rs) fun vs => Q (oneA vs) h
  | .exit _, _, _ => False
theorem FW_fun {c : Ctx} {f : FuncId} {fn : Func} {cd : Code} {args : List Value} {h : AHeap} {Q : Value → AHeap → Prop} (hp : c.prim f = none) (hf : c.P.funcs[f]? = some fn) (hb : fn.body = some cd) (hn : (fn.name == "runtime.NumGoroutine") = false)
    (hw : AW c fn.ntmps cd (retQ c fn.results.toList Q) args h) : FW c f args h Q := by
  obtain ⟨x, fr', h', he, hQ⟩ := AW_sound _ _ _ _ hw
  cases x with
  | exit i => exact hQ.elim
  | normal => obtain ⟨vs, hr, hq⟩ := hQ; exact ⟨_, _, evU_fun hp hf hb hn he (by simp) hr, hq⟩
  | ret => obtain ⟨vs, hr, hq⟩ := hQ; exact ⟨_, _, evU_fun hp hf hb hn he (by simp) hr, hq⟩
/-- The same, its parts taken from the function's text. -/
theorem FW_f {c : Ctx} {f : FuncId} {nm og : String} {ta ps rt : Array TypeId} {nfr n : Nat} {rs : Array ResultVar} {cd : Code} {nr ou : Bool} {fl : String} {el : Nat} {ln : Option Nat} {me : List Departure} {tn : Array String} {args : List Value} {h : AHeap} {Q : Value → AHeap → Prop}
    (hf : c.P.funcs[f]? = some (.mk nm og ta ps rt nfr n rs (some cd) nr ou fl el ln me tn)) (hp : c.prim f = none) (hn : (nm == "runtime.NumGoroutine") = false)
    (hw : AW c n cd (retQ c rs.toList Q) args h) : FW c f args h Q := FW_fun hp hf rfl hn hw
/-! ### the operations, one by one -/
section
variable {c : Ctx} {fr : AFrame} {h : AHeap} {K : Value → AHeap → Prop}
theorem someP_map {α β : Type} {x : Option α} {f : α → β} {K : β → Prop} : someP (x.map f) K ↔ someP x fun a => K (f a) := by
  cases x <;> simp [someP_some, someP_none]
theorem OW_pure {op : Op} (hp : pureOp op = true) : OW c fr op h K ↔ someP (purA c fr op) fun v => K v h := by
  unfold OW evOp
  rw [if_pos hp, someP_map]
theorem OW_load {t : TypeId} {x : Operand} : OW c fr (.load t x) h K ↔ someP (evA c fr x) fun a => someP (loadA c.P h t a) fun v => K v h := by
  unfold OW evOp
  simp only [pureOp, Bool.false_eq_true, if_false]
  cases evA c fr x <;> simp [someP_some, someP_none, someP_map]
theorem OW_store {t : TypeId} {x y : Operand} : OW c fr (.store t x y) h K ↔ someP (evA c fr x) fun a => someP (evA c fr y) fun v => someP (storeA c.P h t a v) fun h' => K undef h' := by
  unfold OW evOp
  simp only [pureOp, Bool.false_eq_true, if_false]
  cases evA c fr x <;> cases evA c fr y <;> simp [someP_some, someP_none, someP_map]
theorem OW_alloc {t : TypeId} : OW c fr (.alloc t) h K ↔ someP (zeroA c.P t) fun z => someP (eszA c.P t) fun n => K (.pointer (some ⟨h.length, 0, none⟩)) (h ++ [some (.cells ⟨z, n, false⟩)]) := by
  unfold OW evOp
  simp only [pureOp, Bool.false_eq_true, if_false]
  cases zeroA c.P t <;> cases eszA c.P t <;> simp [someP_some, someP_none, newA]
theorem OW_box {t : TypeId} {x : Operand} : OW c fr (.box t x) h K ↔ someP (evA c fr x) fun v => someP (eszA c.P t) fun n => K (.pointer (some ⟨h.length, 0, none⟩)) (h ++ [some (.cells ⟨v.cells.toList, n, false⟩)]) := by
  unfold OW evOp
  simp only [pureOp, Bool.false_eq_true, if_false]
  cases evA c fr x <;> cases eszA c.P t <;> simp [someP_some, someP_none, newA]
theorem OW_convert {s d : TypeId} {x : Operand} : OW c fr (.convert s d x) h K ↔ someP (evA c fr x) fun a => someP (convA c.P s d a h) fun r => K r.1 r.2 := by
  unfold OW evOp
  simp only [pureOp, Bool.false_eq_true, if_false]
  cases evA c fr x <;> simp [someP_some, someP_none]
theorem OW_slice {t : TypeId} {x : Operand} {lo hi : Option Operand} : OW c fr (.slice t x lo hi none) h K ↔ someP (evA c fr x) fun a => someP (evL c fr lo.toList) fun l => someP (evL c fr hi.toList) fun r => someP (sliceA c.P t a l[0]? r[0]? h) fun v => K v h := by
  unfold OW evOp
  simp only [pureOp, Bool.false_eq_true, if_false]
  cases evA c fr x <;> cases evL c fr lo.toList <;> cases evL c fr hi.toList <;> simp [someP_some, someP_none, someP_map]
theorem OW_buildSlice {t : TypeId} {len : Nat} {ps : Array (Nat × Operand)} : OW c fr (.buildSlice t len ps) h K ↔ someP (evParts c fr ps.toList) fun p => someP (buildSliceA c.P t len p h) fun r => K r.1 r.2 := by
  unfold OW evOp
  simp only [pureOp, Bool.false_eq_true, if_false]
  cases evParts c fr ps.toList <;> simp [someP_some, someP_none]
theorem OW_makeSlice {t : TypeId} {l m : Operand} : OW c fr (.makeSlice t l m) h K ↔ someP (evA c fr l) fun a => someP (evA c fr m) fun b => someP (makeSliceA c.P t a b h) fun r => K r.1 r.2 := by
  unfold OW evOp
  simp only [pureOp, Bool.false_eq_true, if_false]
  cases evA c fr l <;> cases evA c fr m <;> simp [someP_some, someP_none]
theorem OW_call {f : Operand} {args : Array Operand} {ts : Array TypeId} : OW c fr (.call { callee := .value f, args := args, argTypes := ts }) h K ↔
    someP (evA c fr f) fun g => someP (evL c fr args.toList) fun vs => match g with | .func (.func g) first captured => FW c g (first.toList ++ vs ++ captured.toList) h K | _ => False := by
  unfold OW evOp
  simp only [pureOp, Bool.false_eq_true, if_false]
  cases evA c fr f with
  | none => simp [someP_none]
  | some g =>
    cases evL c fr args.toList with
    | none => simp [someP_some, someP_none]
    | some vs =>
      simp only [someP_some]
      cases g with
      | func fn first captured =>
        cases fn with
        | func g => exact ⟨fun ⟨r, h1, h2⟩ => ⟨r.1, r.2, h1, h2⟩, fun ⟨v, h', h1, h2⟩ => ⟨(v, h'), h1, h2⟩⟩
        | _ => simp [someP_none]
      | _ => simp [someP_none]
theorem OW_append {args : Array Operand} {ts : Array TypeId} : OW c fr (.call { callee := .builtin .append, args := args, argTypes := ts }) h K ↔
    someP (evL c fr args.toList) fun vs => match vs, ts[0]?, ts[1]? with
      | [s, x], some t, some u => (match c.P.underlying u with | some (.int _) => False | some _ => True | none => False) ∧ someP (appendA c.P t s x h) fun r => K r.1 r.2
      | _, _, _ => False := by
  unfold OW evOp
  simp only [pureOp, Bool.false_eq_true, if_false]
  cases evL c fr args.toList with
  | none => simp [someP_none]
  | some vs =>
    simp only [someP_some]
    generalize ts[0]? = t0
    generalize ts[1]? = t1
    match vs, t0, t1 with
    | [s, x], some t, some u =>
      simp only
      cases hu : c.P.underlying u with
      | none => simp [someP_none]
      | some d => cases d <;> simp [someP_none]
    | [], _, _ => simp [someP_none]
    | [_], _, _ => simp [someP_none]
    | _ :: _ :: _ :: _, _, _ => simp [someP_none]
    | [_, _], none, _ => simp [someP_none]
    | [_, _], some _, none => simp [someP_none]
end
end Go.Abs
