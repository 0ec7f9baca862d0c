/- Abs23: the rules as equations, to be used by simp. Conditions: none. -/
import Derived.Test.YtknhmkijmbcnhaaAbs22
set_option linter.unusedVariables false
set_option linter.unusedSimpArgs false
namespace Go.Abs
/-- What a guard asks. -/
def GW (v : Value) (want : Bool) (T F : Prop) : Prop :=
  match v with
  | .bool b => if (b == want) = true then T else F
  | _ => F
def CB (v : Value) (T F : Prop) : Prop :=
  match v with
  | .bool b => if b = true then T else F
  | _ => False
section
variable {c : Ctx} {fr : AFrame} {h : AHeap} {n : Nat} {K : Value → AHeap → Prop} {ops : Array Oper} {Q : AFrame → AHeap → Prop} {dst : Option Tmp} {op : Op} {ty : TypeId} {pos : String} {after : Array Edge} {l : List Oper} {mt : Nat → AFrame → AHeap → AHeap → Bool} {k : Nat}
theorem fget_set : ∀ (fr : AFrame) (d i : Nat) (v : Value), fget (fset fr d v) i = if i = d then v else fget fr i
  | [], 0, 0, v => by simp [fset, fget]
  | [], 0, i + 1, v => by simp [fset, fget]
  | [], d + 1, 0, v => by simp [fset, fget]
  | [], d + 1, i + 1, v => by simp [fset, fget, fget_set []]
  | x :: l, 0, 0, v => by simp [fset, fget]
  | x :: l, 0, i + 1, v => by simp [fset, fget]
  | x :: l, d + 1, 0, v => by simp [fset, fget]
  | x :: l, d + 1, i + 1, v => by simp [fset, fget, fget_set l]
theorem fget_same (fr : AFrame) (d : Nat) (v : Value) : fget (fset fr d v) d = v := by rw [fget_set, if_pos rfl]
theorem fget_cons0 (v : Value) (l : AFrame) : fget (v :: l) 0 = v := rfl
theorem fget_consS (v : Value) (l : AFrame) (i : Nat) : fget (v :: l) (i + 1) = fget l i := rfl
theorem RWn : RW c n ops Q [] fr h = Q fr h := rfl
theorem RWc : RW c n ops Q (⟨dst, op, ty, pos, after, none⟩ :: l) fr h = OW c fr op h (fun v h' => PW n fr dst v fun fr' => RW c n ops Q l fr' h') := by simp [RW, wantA]
theorem wantA_some {o : Oper} {j : Nat} {want : Bool} {t : Tmp} (hg : o.guard = some (j, want)) (ht : (ops[j]?).bind (·.dst) = some t) (T F : Prop) : (if wantA ops fr o = true then T else F) = GW (fget fr t) want T F := by
  unfold wantA GW
  simp only [hg, ht]
  split <;> rename_i hv <;> split <;> simp_all
/-- A guarded operation; its guard's place is found by 'ht', by rfl. -/
theorem RWg {j : Nat} {want : Bool} (t : Tmp) (ht : (ops[j]?).bind (·.dst) = some t) : RW c n ops Q (⟨dst, op, ty, pos, after, some (j, want)⟩ :: l) fr h =
    GW (fget fr t) want (OW c fr op h (fun v h' => PW n fr dst v fun fr' => RW c n ops Q l fr' h')) (PW n fr dst undef fun fr' => RW c n ops Q l fr' h) := by
  simp only [RW]
  exact wantA_some rfl ht _ _
/-- The place of a guard, as a list's element. -/
def gdst (ops : List Oper) (j : Nat) : Tmp := ((ops[j]?).bind (·.dst)).getD 0
theorem RWg' {j : Nat} {want : Bool} : RW c n ops Q (⟨dst, op, ty, pos, after, some (j, want)⟩ :: l) fr h =
    match (ops.toList[j]?).bind (·.dst) with
    | some t => someP (some (fget fr t)) fun w => GW w want (OW c fr op h (fun v h' => PW n fr dst v fun fr' => RW c n ops Q l fr' h')) (PW n fr dst undef fun fr' => RW c n ops Q l fr' h)
    | none => PW n fr dst undef fun fr' => RW c n ops Q l fr' h := by
  split
  · rename_i t ht; rw [propext (someP_some _ _)]; exact RWg t (by simpa using ht)
  · rename_i ht
    have hn : wantA ops fr ⟨dst, op, ty, pos, after, some (j, want)⟩ = false := by
      unfold wantA
      simp only [Array.getElem?_toList] at ht
      simp only [ht]
    simp only [RW, hn, Bool.false_eq_true, if_false]
theorem gsome (o : Oper) : (Option.bind (some o) (·.dst)) = o.dst := rfl
theorem RWDn : RWD c n ops mt Q [] k fr h = Q fr h := rfl
/-- Of an operation that is not ordered against all others. -/
def DQ (op : Op) (m : Bool) (h h' : AHeap) (p : Prop) : Prop := (pureOp op = true ∨ extOp op = true ∨ m = true ∨ h'.take h.length = h) ∧ p
theorem RWDc : RWD c n ops mt Q (⟨dst, op, ty, pos, after, none⟩ :: l) k fr h = OW c fr op h (fun v h' => DQ op (mt k fr h h') h h' (PW n fr dst v fun fr' => RWD c n ops mt Q l (k + 1) fr' h')) := by
  simp only [RWD, wantA, if_true]
  rfl
theorem RWDg' {j : Nat} {want : Bool} : RWD c n ops mt Q (⟨dst, op, ty, pos, after, some (j, want)⟩ :: l) k fr h =
    match (ops.toList[j]?).bind (·.dst) with
    | some t => someP (some (fget fr t)) fun w => GW w want (OW c fr op h (fun v h' => DQ op (mt k fr h h') h h' (PW n fr dst v fun fr' => RWD c n ops mt Q l (k + 1) fr' h'))) (PW n fr dst undef fun fr' => RWD c n ops mt Q l (k + 1) fr' h)
    | none => PW n fr dst undef fun fr' => RWD c n ops mt Q l (k + 1) fr' h := by
  split
  · rename_i t ht
    rw [propext (someP_some _ _)]
    simp only [RWD, DQ]
    exact wantA_some rfl (by simpa using ht) _ _
  · rename_i ht
    have hn : wantA ops fr ⟨dst, op, ty, pos, after, some (j, want)⟩ = false := by
      unfold wantA
      simp only [Array.getElem?_toList] at ht
      simp only [ht]
    simp only [RWD, hn, Bool.false_eq_true, if_false]
theorem DQ_pure {h' : AHeap} {m : Bool} {p : Prop} (hp : pureOp op = true) : DQ op m h h' p = p := by simp [DQ, hp]
theorem DQ_ext {h' : AHeap} {m : Bool} {p : Prop} (hp : extOp op = true) : DQ op m h h' p = p := by simp [DQ, hp]
theorem DQ_mut {h' : AHeap} {p : Prop} : DQ op true h h' p = p := by simp [DQ]
theorem DQ_same {m : Bool} {p : Prop} : DQ op m h h p = p := by simp [DQ]
theorem DQ_app {g : AHeap} {m : Bool} {p : Prop} : DQ op m h (h ++ g) p = p := by simp [DQ]
theorem DQ_app2 {g g2 : AHeap} {m : Bool} {p : Prop} : DQ op m h (h ++ g ++ g2) p = p := by simp [DQ]
theorem DQ_move {x : Operand} {h' : AHeap} {m : Bool} {p : Prop} : DQ (.move x) m h h' p = p := DQ_pure rfl
theorem DQ_assign {x : Operand} {h' : AHeap} {m : Bool} {p : Prop} : DQ (.assign x) m h h' p = p := DQ_pure rfl
theorem DQ_pick {x a b : Operand} {h' : AHeap} {m : Bool} {p : Prop} : DQ (.pick x a b) m h h' p = p := DQ_pure rfl
theorem DQ_nilCheck {x : Operand} {h' : AHeap} {m : Bool} {p : Prop} : DQ (.nilCheck x) m h h' p = p := DQ_pure rfl
theorem DQ_bin {bo : BinOp} {t u : TypeId} {x y : Operand} {h' : AHeap} {m : Bool} {p : Prop} : DQ (.binOp bo t x y u) m h h' p = p := DQ_pure rfl
theorem DQ_un {uo : UnOp} {t : TypeId} {x : Operand} {h' : AHeap} {m : Bool} {p : Prop} : DQ (.unOp uo t x) m h h' p = p := DQ_pure rfl
theorem DQ_makeFunc {f : Fn} {a b : Array Operand} {h' : AHeap} {m : Bool} {p : Prop} : DQ (.makeFunc f a b) m h h' p = p := DQ_pure rfl
theorem DQ_makeIface {t : TypeId} {x : Operand} {h' : AHeap} {m : Bool} {p : Prop} : DQ (.makeInterface t x) m h h' p = p := DQ_pure rfl
theorem DQ_fieldAddr {t : TypeId} {x : Operand} {f : Nat} {h' : AHeap} {m : Bool} {p : Prop} : DQ (.fieldAddr t x f) m h h' p = p := DQ_pure rfl
theorem DQ_field {t : TypeId} {x : Operand} {f : Nat} {h' : AHeap} {m : Bool} {p : Prop} : DQ (.field t x f) m h h' p = p := DQ_pure rfl
theorem DQ_indexAddr {t : TypeId} {x i : Operand} {h' : AHeap} {m : Bool} {p : Prop} : DQ (.indexAddr t x i) m h h' p = p := DQ_pure rfl
theorem DQ_index {t : TypeId} {x i : Operand} {h' : AHeap} {m : Bool} {p : Prop} : DQ (.index t x i) m h h' p = p := DQ_pure rfl
theorem DQ_extract {x : Operand} {i : Nat} {h' : AHeap} {m : Bool} {p : Prop} : DQ (.extract x i) m h h' p = p := DQ_pure rfl
theorem DQ_build {t : TypeId} {ps : Array (Nat × Operand)} {h' : AHeap} {m : Bool} {p : Prop} : DQ (.build t ps) m h h' p = p := DQ_pure rfl
theorem DQ_len {args : Array Operand} {ts : Array TypeId} {h' : AHeap} {m : Bool} {p : Prop} : DQ (.call { callee := .builtin .len, args := args, argTypes := ts }) m h h' p = p := DQ_pure rfl
theorem DQ_min {args : Array Operand} {ts : Array TypeId} {h' : AHeap} {m : Bool} {p : Prop} : DQ (.call { callee := .builtin .min, args := args, argTypes := ts }) m h h' p = p := DQ_pure rfl
theorem DQ_max {args : Array Operand} {ts : Array TypeId} {h' : AHeap} {m : Bool} {p : Prop} : DQ (.call { callee := .builtin .max, args := args, argTypes := ts }) m h h' p = p := DQ_pure rfl
theorem DQ_load {t : TypeId} {x : Operand} {h' : AHeap} {m : Bool} {p : Prop} : DQ (.load t x) m h h' p = p := DQ_ext rfl
theorem DQ_convert {s d : TypeId} {x : Operand} {h' : AHeap} {m : Bool} {p : Prop} : DQ (.convert s d x) m h h' p = p := DQ_ext rfl
theorem DQ_slice {t : TypeId} {x : Operand} {lo hi mx : Option Operand} {h' : AHeap} {m : Bool} {p : Prop} : DQ (.slice t x lo hi mx) m h h' p = p := DQ_ext rfl
theorem DQ_alloc {t : TypeId} {h' : AHeap} {m : Bool} {p : Prop} : DQ (.alloc t) m h h' p = p := DQ_ext rfl
theorem DQ_box {t : TypeId} {x : Operand} {h' : AHeap} {m : Bool} {p : Prop} : DQ (.box t x) m h h' p = p := DQ_ext rfl
theorem DQ_buildSlice {t : TypeId} {n : Nat} {ps : Array (Nat × Operand)} {h' : AHeap} {m : Bool} {p : Prop} : DQ (.buildSlice t n ps) m h h' p = p := DQ_ext rfl
theorem DQ_makeSlice {t : TypeId} {x y : Operand} {h' : AHeap} {m : Bool} {p : Prop} : DQ (.makeSlice t x y) m h h' p = p := DQ_ext rfl
theorem DQ_range {t : TypeId} {x : Operand} {h' : AHeap} {m : Bool} {p : Prop} : DQ (.range t x) m h h' p = p := DQ_ext rfl
theorem PWn {v : Value} {K : AFrame → Prop} : PW n fr none v K = K fr := rfl
theorem PWs {d : Tmp} {v : Value} {K : AFrame → Prop} : PW n fr (some d) v K = (d < n ∧ K (fset fr d v)) := rfl
theorem someP_s {α : Type} {v : α} {K : α → Prop} : someP (some v) K = K v := propext (someP_some v K)
theorem someP_n {α : Type} {K : α → Prop} : someP none K = False := propext (someP_none K)
theorem evA_tmp {t : Tmp} : evA c fr (.tmp t) = some (fget fr t) := rfl
theorem evA_int {q : IntKind} {z : Int} : evA c fr (.const (.int q z)) = some (.int q z) := rfl
theorem evA_str {s : ByteArray} : evA c fr (.const (.string s)) = some (.string s) := rfl
theorem evA_bool {b : Bool} : evA c fr (.const (.bool b)) = some (.bool b) := rfl
theorem evA_nilp : evA c fr (.const (.pointer none)) = some (.pointer none) := rfl
theorem evA_nils : evA c fr (.const (.slice none 0 0)) = some (.slice none 0 0) := rfl
theorem evA_nilf : evA c fr (.const .nilFunc) = some .nilFunc := rfl
theorem evA_nili : evA c fr (.const .nilIface) = some .nilIface := rfl
theorem evA_func {f : FuncId} : evA c fr (.func f) = some (.func (.func f) #[] #[]) := rfl
theorem evL_n {K : List Value → Prop} : someP (evL c fr []) K = K [] := someP_s
theorem evL_c {x : Operand} {l : List Operand} {K : List Value → Prop} : someP (evL c fr (x :: l)) K = someP (evA c fr x) fun v => someP (evL c fr l) fun vs => K (v :: vs) := by
  simp only [evL]
  cases evA c fr x <;> cases evL c fr l <;> simp [someP_s, someP_n]
theorem evP_n {K : List (Nat × Value) → Prop} : someP (evParts c fr []) K = K [] := someP_s
theorem evP_c {x : Operand} {i : Nat} {l : List (Nat × Operand)} {K : List (Nat × Value) → Prop} : someP (evParts c fr ((i, x) :: l)) K = someP (evA c fr x) fun v => someP (evParts c fr l) fun vs => K ((i, v) :: vs) := by
  simp only [evParts]
  cases evA c fr x <;> cases evParts c fr l <;> simp [someP_s, someP_n]
theorem CW_eq {x : Operand} {T F : Prop} : CW c fr x T F = someP (evA c fr x) fun v => CB v T F := by
  unfold CW CB
  cases evA c fr x with
  | none => simp [someP_n]
  | some v => simp only [someP_s]; cases v <;> rfl
theorem CB_bool {b : Bool} {T F : Prop} : CB (.bool b) T F = if b = true then T else F := rfl
theorem GW_t {b : Bool} {T F : Prop} : GW (.bool b) true T F = if b = true then T else F := by simp [GW]
theorem GW_f {b : Bool} {T F : Prop} : GW (.bool b) false T F = if b = true then F else T := by cases b <;> simp [GW]
/-! ### pure operations -/
theorem OW_move {x : Operand} : OW c fr (.move x) h K = someP (evA c fr x) fun v => K v h := propext (OW_pure rfl)
theorem OW_assign {x : Operand} : OW c fr (.assign x) h K = someP (evA c fr x) fun v => K v h := propext (OW_pure rfl)
theorem OW_pick {x a b : Operand} : OW c fr (.pick x a b) h K = someP (evA c fr x) fun v => CB v (someP (evA c fr a) fun v => K v h) (someP (evA c fr b) fun v => K v h) := by
  refine propext (Iff.trans (OW_pure rfl) ?_)
  simp only [purA]
  cases evA c fr x with
  | none => simp [someP_n]
  | some v =>
    simp only [someP_s]
    cases v with
    | bool t => cases t <;> simp [CB]
    | _ => simp [CB, someP_n]
theorem OW_nilCheck {x : Operand} : OW c fr (.nilCheck x) h K = someP (evA c fr x) fun v => match v with | .pointer (some a) => K (.pointer (some a)) h | _ => False := by
  refine propext (Iff.trans (OW_pure rfl) ?_)
  simp only [purA]
  cases evA c fr x with
  | none => simp [someP_n]
  | some v =>
    simp only [someP_s]
    cases v with
    | pointer a => cases a <;> simp [someP_s, someP_n]
    | _ => simp [someP_n]
theorem OW_bin {bo : BinOp} {t u : TypeId} {x y : Operand} : OW c fr (.binOp bo t x y u) h K = someP (evA c fr x) fun a => someP (evA c fr y) fun b => someP (binA c.P bo t (isConstA x) (isConstA y) a b) fun v => K v h := by
  refine propext (Iff.trans (OW_pure rfl) ?_)
  simp only [purA]
  cases evA c fr x <;> cases evA c fr y <;> simp [someP_n, someP_s]
theorem OW_un {uo : UnOp} {t : TypeId} {x : Operand} : OW c fr (.unOp uo t x) h K = someP (evA c fr x) fun a => someP (unA uo a) fun v => K v h := by
  refine propext (Iff.trans (OW_pure rfl) ?_)
  simp only [purA]
  cases evA c fr x <;> simp [someP_n, someP_s]
theorem OW_makeFunc {f : Fn} {a b : Array Operand} : OW c fr (.makeFunc f a b) h K = someP (evL c fr a.toList) fun xs => someP (evL c fr b.toList) fun cs => K (.func f xs.toArray cs.toArray) h := by
  refine propext (Iff.trans (OW_pure rfl) ?_)
  simp only [purA]
  cases evL c fr a.toList <;> cases evL c fr b.toList <;> simp [someP_n, someP_s]
theorem OW_fieldAddr {t : TypeId} {x : Operand} {f : Nat} : OW c fr (.fieldAddr t x f) h K = someP (evA c fr x) fun a => someP (fieldA c.P t f) fun p => match a with | .pointer (some ⟨b, o, none⟩) => (sizeA c.P p.2).getD 0 ≠ 0 ∧ K (.pointer (some ⟨b, o + p.1, none⟩)) h | _ => False := by
  refine propext (Iff.trans (OW_pure rfl) ?_)
  simp only [purA]
  cases evA c fr x with
  | none => simp [someP_n]
  | some v =>
    simp only [someP_s]
    cases fieldA c.P t f with
    | none => cases v <;> simp [someP_n]
    | some p =>
      simp only [someP_s]
      obtain ⟨off, u⟩ := p
      cases v with
      | pointer a =>
        cases a with
        | none => simp [someP_n]
        | some a =>
          obtain ⟨b, o, w⟩ := a
          cases w with
          | none => by_cases hz : (sizeA c.P u).getD 0 = 0 <;> simp [hz, someP_n, someP_s]
          | some _ => simp [someP_n]
      | _ => simp [someP_n]
theorem OW_field {t : TypeId} {x : Operand} {f : Nat} : OW c fr (.field t x f) h K = someP (evA c fr x) fun a => someP (fieldA c.P t f) fun p => match a with | .agg cs => someP (partA c.P p.2 cs p.1) fun v => K v h | _ => False := by
  refine propext (Iff.trans (OW_pure rfl) ?_)
  simp only [purA]
  cases evA c fr x with
  | none => simp [someP_n]
  | some v =>
    simp only [someP_s]
    cases fieldA c.P t f with
    | none => cases v <;> simp [someP_n]
    | some p => cases v <;> simp [someP_n, someP_s]
theorem OW_indexAddr {t : TypeId} {x i : Operand} : OW c fr (.indexAddr t x i) h K = someP (evA c fr x) fun a => someP (evA c fr i) fun b => someP (indexAddrA c.P t a b) fun v => K v h := by
  refine propext (Iff.trans (OW_pure rfl) ?_)
  simp only [purA]
  cases evA c fr x <;> cases evA c fr i <;> simp [someP_n, someP_s]
theorem OW_index {t : TypeId} {x i : Operand} : OW c fr (.index t x i) h K = someP (evA c fr x) fun a => someP (evA c fr i) fun b => someP (indexA c.P t a b) fun v => K v h := by
  refine propext (Iff.trans (OW_pure rfl) ?_)
  simp only [purA]
  cases evA c fr x <;> cases evA c fr i <;> simp [someP_n, someP_s]
theorem OW_extract {x : Operand} {i : Nat} : OW c fr (.extract x i) h K = someP (evA c fr x) fun a => match a with | .tuple vs => someP (vs[i]?) fun v => K v h | _ => False := by
  refine propext (Iff.trans (OW_pure rfl) ?_)
  simp only [purA]
  cases evA c fr x with
  | none => simp [someP_n]
  | some v => cases v <;> simp [someP_n, someP_s]
theorem OW_build {t : TypeId} {ps : Array (Nat × Operand)} : OW c fr (.build t ps) h K = someP (evParts c fr ps.toList) fun p => someP (buildA c.P t p) fun v => K v h := by
  refine propext (Iff.trans (OW_pure rfl) ?_)
  simp only [purA]
  cases evParts c fr ps.toList <;> simp [someP_n, someP_s]
theorem OW_len {args : Array Operand} {ts : Array TypeId} : OW c fr (.call { callee := .builtin .len, args := args, argTypes := ts }) h K = someP (evL c fr args.toList) fun vs => match vs, ts[0]? with | [x], some t => someP (lenA c.P t x) fun v => K v h | _, _ => False := by
  refine propext (Iff.trans (OW_pure rfl) ?_)
  simp only [purA]
  cases evL c fr args.toList with
  | none => simp [someP_n]
  | some vs =>
    simp only [someP_s]
    generalize ts[0]? = t0
    match vs, t0 with
    | [], _ => simp [someP_n]
    | [x], some t => simp
    | [x], none => simp [someP_n]
    | _ :: _ :: _, _ => simp [someP_n]
theorem OW_min {args : Array Operand} {ts : Array TypeId} : OW c fr (.call { callee := .builtin .min, args := args, argTypes := ts }) h K = someP (evL c fr args.toList) fun vs => match vs with | x :: l => someP (foldA min2A x l) fun v => K v h | _ => False := by
  refine propext (Iff.trans (OW_pure rfl) ?_)
  simp only [purA]
  cases evL c fr args.toList with
  | none => simp [someP_n]
  | some vs => cases vs <;> simp [someP_n, someP_s]
theorem OW_max {args : Array Operand} {ts : Array TypeId} : OW c fr (.call { callee := .builtin .max, args := args, argTypes := ts }) h K = someP (evL c fr args.toList) fun vs => match vs with | x :: l => someP (foldA max2A x l) fun v => K v h | _ => False := by
  refine propext (Iff.trans (OW_pure rfl) ?_)
  simp only [purA]
  cases evL c fr args.toList with
  | none => simp [someP_n]
  | some vs => cases vs <;> simp [someP_n, someP_s]
/-! ### integers and strings -/
variable {P : Program} {t : TypeId} {cx cy : Bool} {q : IntKind} {a b : Int}
theorem b_add : binA P .add t cx cy (.int q a) (.int q b) = some (.int q (q.wrap (a + b))) := by simp [binA, intBinA]
theorem b_sub : binA P .sub t cx cy (.int q a) (.int q b) = some (.int q (q.wrap (a - b))) := by simp [binA, intBinA]
theorem b_mul : binA P .mul t cx cy (.int q a) (.int q b) = some (.int q (q.wrap (a * b))) := by simp [binA, intBinA]
theorem b_quo : binA P .quo t cx cy (.int q a) (.int q b) = if b = 0 then none else some (.int q (q.wrap (a.tdiv b))) := by simp [binA, intBinA]
theorem b_rem : binA P .rem t cx cy (.int q a) (.int q b) = if b = 0 then none else some (.int q (a.tmod b)) := by simp [binA, intBinA]
theorem b_and : binA P .and t cx cy (.int q a) (.int q b) = some (.int q (q.wrap (BitVec.ofInt q.bits a &&& BitVec.ofInt q.bits b).toNat)) := by simp [binA, intBinA]
theorem b_or : binA P .or t cx cy (.int q a) (.int q b) = some (.int q (q.wrap (BitVec.ofInt q.bits a ||| BitVec.ofInt q.bits b).toNat)) := by simp [binA, intBinA]
theorem b_xor : binA P .xor t cx cy (.int q a) (.int q b) = some (.int q (q.wrap (BitVec.ofInt q.bits a ^^^ BitVec.ofInt q.bits b).toNat)) := by simp [binA, intBinA]
theorem b_eql : binA P .eql t cx cy (.int q a) (.int q b) = some (.bool (decide (a = b))) := by simp [binA, intBinA]
theorem b_neq : binA P .neq t cx cy (.int q a) (.int q b) = some (.bool (decide (a ≠ b))) := by simp [binA, intBinA]
theorem b_lss : binA P .lss t cx cy (.int q a) (.int q b) = some (.bool (decide (a < b))) := by simp [binA, intBinA]
theorem b_leq : binA P .leq t cx cy (.int q a) (.int q b) = some (.bool (decide (a ≤ b))) := by simp [binA, intBinA]
theorem b_gtr : binA P .gtr t cx cy (.int q a) (.int q b) = some (.bool (decide (b < a))) := by simp [binA, intBinA]
theorem b_geq : binA P .geq t cx cy (.int q a) (.int q b) = some (.bool (decide (b ≤ a))) := by simp [binA, intBinA]
theorem b_shl {q' : IntKind} : binA P .shl t cx cy (.int q a) (.int q' b) = if b < 0 then none else some (.int q (q.wrap (a * 2 ^ (min b.toNat q.bits)))) := by simp [binA, shiftA]
theorem b_shr {q' : IntKind} : binA P .shr t cx cy (.int q a) (.int q' b) = if b < 0 then none else some (.int q (a.fdiv (2 ^ (min b.toNat q.bits)))) := by simp [binA, shiftA]
theorem s_add {x y : ByteArray} : binA P .add t cx cy (.string x) (.string y) = if x.size + y.size ≤ 9223372036854775807 then some (.string (x ++ y)) else none := rfl
theorem s_eql {x y : ByteArray} : binA P .eql t cx cy (.string x) (.string y) = some (.bool (decide (x = y))) := rfl
theorem s_neq {x y : ByteArray} : binA P .neq t cx cy (.string x) (.string y) = some (.bool (decide (x ≠ y))) := by simp [binA, strBinA]
theorem bb_eql {x y : Bool} : binA P .eql t cx cy (.bool x) (.bool y) = if isBoolT P t = true then some (.bool (x == y)) else none := rfl
theorem bb_neq {x y : Bool} : binA P .neq t cx cy (.bool x) (.bool y) = if isBoolT P t = true then some (.bool (!(x == y))) else none := rfl
theorem un_not {b : Bool} : unA .not (.bool b) = some (.bool (!b)) := rfl
theorem un_neg : unA .neg (.int q a) = some (.int q (q.wrap (0 - a))) := rfl
theorem ofInt32 (c : BitVec 32) : BitVec.ofInt 32 (c.toNat : Int) = c := by simp
theorem b_and32 : binA P .and t cx cy (.int .u32 a) (.int .u32 b) = some (.int .u32 (BitVec.ofInt 32 a &&& BitVec.ofInt 32 b).toNat) := by
  rw [b_and]
  have hw : ∀ v : BitVec 32, IntKind.u32.wrap (v.toNat : Int) = v.toNat := fun v => by have := v.isLt; simp [IntKind.wrap, IntKind.signed, IntKind.bits]; omega
  exact congrArg some (congrArg (Value.int .u32) (hw _))
theorem b_or32 : binA P .or t cx cy (.int .u32 a) (.int .u32 b) = some (.int .u32 (BitVec.ofInt 32 a ||| BitVec.ofInt 32 b).toNat) := by
  rw [b_or]
  have hw : ∀ v : BitVec 32, IntKind.u32.wrap (v.toNat : Int) = v.toNat := fun v => by have := v.isLt; simp [IntKind.wrap, IntKind.signed, IntKind.bits]; omega
  exact congrArg some (congrArg (Value.int .u32) (hw _))
theorem b_xor32 : binA P .xor t cx cy (.int .u32 a) (.int .u32 b) = some (.int .u32 (BitVec.ofInt 32 a ^^^ BitVec.ofInt 32 b).toNat) := by
  rw [b_xor]
  have hw : ∀ v : BitVec 32, IntKind.u32.wrap (v.toNat : Int) = v.toNat := fun v => by have := v.isLt; simp [IntKind.wrap, IntKind.signed, IntKind.bits]; omega
  exact congrArg some (congrArg (Value.int .u32) (hw _))
theorem b_and8 : binA P .and t cx cy (.int .u8 a) (.int .u8 b) = some (.int .u8 (BitVec.ofInt 8 a &&& BitVec.ofInt 8 b).toNat) := by
  rw [b_and]
  have hw : ∀ v : BitVec 8, IntKind.u8.wrap (v.toNat : Int) = v.toNat := fun v => by have := v.isLt; simp [IntKind.wrap, IntKind.signed, IntKind.bits]; omega
  exact congrArg some (congrArg (Value.int .u8) (hw _))
theorem b_or8 : binA P .or t cx cy (.int .u8 a) (.int .u8 b) = some (.int .u8 (BitVec.ofInt 8 a ||| BitVec.ofInt 8 b).toNat) := by
  rw [b_or]
  have hw : ∀ v : BitVec 8, IntKind.u8.wrap (v.toNat : Int) = v.toNat := fun v => by have := v.isLt; simp [IntKind.wrap, IntKind.signed, IntKind.bits]; omega
  exact congrArg some (congrArg (Value.int .u8) (hw _))
theorem b_xor8 : binA P .xor t cx cy (.int .u8 a) (.int .u8 b) = some (.int .u8 (BitVec.ofInt 8 a ^^^ BitVec.ofInt 8 b).toNat) := by
  rw [b_xor]
  have hw : ∀ v : BitVec 8, IntKind.u8.wrap (v.toNat : Int) = v.toNat := fun v => by have := v.isLt; simp [IntKind.wrap, IntKind.signed, IntKind.bits]; omega
  exact congrArg some (congrArg (Value.int .u8) (hw _))
theorem un_xor32 : unA .xor (.int .u32 a) = some (.int .u32 (~~~ BitVec.ofInt 32 a).toNat) := by
  have hb := b_xor32 (P := default) (t := 0) (cx := false) (cy := false) (a := -1) (b := a)
  have hm : (-1 : Int) = -1 := rfl
  have e : BitVec.ofInt 32 4294967295 = BitVec.allOnes 32 := by decide
  have h2 := b_xor32 (P := default) (t := 0) (cx := false) (cy := false) (a := 4294967295) (b := a)
  rw [e, BitVec.allOnes_xor] at h2
  rw [← h2]
  rfl
def convIntA : Option TypeDesc → Option TypeDesc → Int → AHeap → Option (Value × AHeap)
  | some _, some (.int k), n, h => some (.int k (k.wrap n), h)
  | some _, some .string, n, h => some (.string (Utf8.encode n), h)
  | _, _, _, _ => none
theorem conv_int {s d : TypeId} : convA P s d (.int q a) h = convIntA (P.underlying s) (P.underlying d) a h := by
  unfold convA convIntA
  cases P.underlying s with
  | none => rfl
  | some x =>
    cases P.underlying d with
    | none => rfl
    | some y => cases y <;> rfl
theorem conv_int2 {x : TypeDesc} {k : IntKind} : convIntA (some x) (some (.int k)) a h = some (.int k (k.wrap a), h) := rfl
theorem natOp64 {f : Nat → Nat → Nat} {g : BitVec 64 → BitVec 64 → BitVec 64} (hg : ∀ x y, (g x y).toNat = f x.toNat y.toNat) (hf : ∀ x y, x < 2 ^ 63 → y < 2 ^ 63 → f x y < 2 ^ 63) {x y : Nat} (hx : x < 2 ^ 63) (hy : y < 2 ^ 63) :
    IntKind.i64.wrap ((g (BitVec.ofInt 64 (x : Int)) (BitVec.ofInt 64 (y : Int))).toNat : Int) = (f x y : Nat) := by
  have e : ∀ z : Nat, z < 2 ^ 63 → (BitVec.ofInt 64 (z : Int)).toNat = z := fun z hz => by simp; omega
  rw [hg, e x hx, e y hy]
  have := hf x y hx hy
  simp [IntKind.wrap, IntKind.signed, IntKind.bits]
  split <;> omega
theorem b_and64 {x y : Nat} (hx : x < 2 ^ 63) (hy : y < 2 ^ 63) : binA P .and t cx cy (.int .i64 x) (.int .i64 y) = some (.int .i64 (x &&& y : Nat)) := by
  rw [b_and]
  exact congrArg some (congrArg (Value.int .i64) (natOp64 (f := (· &&& ·)) (g := (· &&& ·)) (fun x y => BitVec.toNat_and x y) (fun x y hx hy => Nat.lt_of_le_of_lt Nat.and_le_left hx) hx hy))
theorem b_or64 {x y : Nat} (hx : x < 2 ^ 63) (hy : y < 2 ^ 63) : binA P .or t cx cy (.int .i64 x) (.int .i64 y) = some (.int .i64 (x ||| y : Nat)) := by
  rw [b_or]
  exact congrArg some (congrArg (Value.int .i64) (natOp64 (f := (· ||| ·)) (g := (· ||| ·)) (fun x y => BitVec.toNat_or x y) (fun x y hx hy => Nat.or_lt_two_pow hx hy) hx hy))
theorem fdivN (x k : Nat) : (x : Int).fdiv (2 ^ k) = ((x / 2 ^ k : Nat) : Int) := by
  have h2 : ((2 : Int) ^ k) = ((2 ^ k : Nat) : Int) := by simp
  rw [h2, Int.fdiv_eq_ediv_of_nonneg _ (Int.natCast_nonneg _)]
  rfl
theorem b_shr32 {c : BitVec 32} {q : IntKind} {n : Nat} : binA P .shr t cx cy (.int .u32 c.toNat) (.int q n) = some (.int .u32 (c >>> n).toNat) := by
  rw [b_shr, if_neg (by omega), fdivN, BitVec.toNat_ushiftRight, Nat.shiftRight_eq_div_pow]
  have hb : IntKind.u32.bits = 32 := rfl
  rw [hb]
  have : ((n : Int)).toNat = n := by simp
  rw [this]
  by_cases hn : n ≤ 32
  · rw [Nat.min_eq_left hn]
  · rw [Nat.min_eq_right (by omega), Nat.div_eq_of_lt c.isLt, Nat.div_eq_of_lt]
    exact Nat.lt_of_lt_of_le c.isLt (Nat.pow_le_pow_right (by decide) (by omega))
theorem b_shr64 {x : Nat} {q : IntKind} {n : Nat} (hn : n ≤ 64) : binA P .shr t cx cy (.int .i64 x) (.int q n) = some (.int .i64 (x / 2 ^ n : Nat)) := by
  rw [b_shr, if_neg (by omega), fdivN]
  have hb : IntKind.i64.bits = 64 := rfl
  have : ((n : Int)).toNat = n := by simp
  rw [hb, this, Nat.min_eq_left hn]
theorem b_shl64 {x : Nat} {q : IntKind} {n : Nat} (hn : n ≤ 64) (hx : x * 2 ^ n < 2 ^ 63) : binA P .shl t cx cy (.int .i64 x) (.int q n) = some (.int .i64 (x * 2 ^ n : Nat)) := by
  have hb : IntKind.i64.bits = 64 := rfl
  have : ((n : Int)).toNat = n := by simp
  rw [b_shl, if_neg (by omega), hb, this, Nat.min_eq_left hn]
  have e : (x : Int) * 2 ^ n = ((x * 2 ^ n : Nat) : Int) := by simp
  rw [e]
  generalize x * 2 ^ n = y at *
  refine congrArg some (congrArg (Value.int .i64) ?_)
  simp [IntKind.wrap, IntKind.signed, IntKind.bits]
  split <;> omega
theorem b_shr32l {c : BitVec 32} {q : IntKind} {z : Int} (hz : 0 ≤ z) : binA P .shr t cx cy (.int .u32 c.toNat) (.int q z) = some (.int .u32 (c >>> z.toNat).toNat) := by
  obtain ⟨n, rfl⟩ := Int.eq_ofNat_of_zero_le hz
  exact b_shr32
theorem b_shr64l {x : Nat} {q : IntKind} {z : Int} (hz : 0 ≤ z) (hn : z ≤ 64) : binA P .shr t cx cy (.int .i64 x) (.int q z) = some (.int .i64 (x / 2 ^ z.toNat : Nat)) := by
  obtain ⟨n, rfl⟩ := Int.eq_ofNat_of_zero_le hz
  exact b_shr64 (by omega)
theorem idxArr {e : TypeId} {sz k b o m : Nat} (hu : P.underlying t = some (.array m e)) (hs : sizeA P e = some sz) (hk : k < m) : indexAddrA P t (.pointer (some ⟨b, o, none⟩)) (.int q k) = some (.pointer (some ⟨b, o + k * sz, none⟩)) := by
  simp only [indexAddrA, hu, hs]
  rw [if_pos ⟨by omega, by omega⟩]
  simp
theorem idxSl {e : TypeId} {sz k b o m cap : Nat} (hu : P.underlying t = some (.slice e)) (hs : sizeA P e = some sz) (hk : k < m) : indexAddrA P t (.slice (some ⟨b, o, none⟩) m cap) (.int q k) = some (.pointer (some ⟨b, o + k * sz, none⟩)) := by
  simp only [indexAddrA, hu, hs]
  rw [if_pos ⟨by omega, by omega⟩]
  simp
theorem idxAgg {e : TypeId} {k m : Nat} {cs : Array Value} (hu : P.underlying t = some (.array m e)) (hs : sizeA P e = some 1) (ha : isAggA P e = some false) (hk : k < m) : indexA P t (.agg cs) (.int q k) = cs[k]? := by
  simp only [indexA, hu, hs, partA, ha]
  rw [if_pos ⟨by omega, by omega⟩]
  simp
theorem idxStr {s : ByteArray} {k : Nat} (hu : P.underlying t = some .string) : indexA P t (.string s) (.int q k) = (s.data[k]?).map fun b => .int .u8 b.toNat := by
  simp only [indexA, hu]
  rw [if_pos (by omega)]
  simp
theorem wrap_id {q : IntKind} {x : Int} (h1 : (if q.signed = true then -2 ^ (q.bits - 1) else 0) ≤ x) (h2 : x < if q.signed = true then 2 ^ (q.bits - 1) else 2 ^ q.bits) : q.wrap x = x := by
  cases q <;> simp [IntKind.wrap, IntKind.signed, IntKind.bits] at * <;> (try split) <;> omega
theorem wrap64 {x : Int} (h1 : -9223372036854775808 ≤ x) (h2 : x < 9223372036854775808) : IntKind.wrap .i64 x = x := wrap_id (by simp [IntKind.signed, IntKind.bits]; omega) (by simp [IntKind.signed, IntKind.bits]; omega)
theorem wrapu8 {x : Int} : IntKind.wrap .u8 x = x % 256 := by simp [IntKind.wrap, IntKind.signed, IntKind.bits]
theorem wrapu16 {x : Int} : IntKind.wrap .u16 x = x % 65536 := by simp [IntKind.wrap, IntKind.signed, IntKind.bits]
theorem wrapu32 {x : Int} : IntKind.wrap .u32 x = x % 4294967296 := by simp [IntKind.wrap, IntKind.signed, IntKind.bits]
theorem wrapu64 {x : Int} : IntKind.wrap .u64 x = x % 18446744073709551616 := by simp [IntKind.wrap, IntKind.signed, IntKind.bits]
/-! ### code -/
variable {Z : AExit → AFrame → AHeap → Prop} {x y : Code} {id : Nat}
theorem AW_skip : AW c n .skip Z fr h = Z .normal fr h := rfl
theorem AW_ret : AW c n .ret Z fr h = Z .ret fr h := rfl
theorem AW_exit : AW c n (.exit id) Z fr h = Z (.exit id) fr h := rfl
theorem AW_reg : AW c n (.region id ops false) Z fr h = RW c n ops (Z .normal) ops.toList fr h := by simp [AW, AW0]
theorem AW_draw : AW c n (.region id ops true) Z fr h = (chkA ops = true ∧ RWD c n ops (mtF c ops) (Z .normal) ops.toList 0 fr h) := by simp [AW, AW0, DW]
theorem AW_seq : AW c n (.seq x y) Z fr h = AW c n x (thenQ (AW c n y Z) Z) fr h := rfl
theorem AW_cond {o : Operand} : AW c n (.cond o x y) Z fr h = CW c fr o (AW c n x Z fr h) (AW c n y Z fr h) := rfl
theorem AW_block : AW c n (.block id x) Z fr h = AW c n x (blockQ id Z) fr h := rfl
theorem AW_loop : AW c n (.loop x) Z fr h = LW c n x Z fr h := rfl
theorem tQn {K : AFrame → AHeap → Prop} : thenQ K Z .normal fr h = K fr h := rfl
theorem tQe {K : AFrame → AHeap → Prop} : thenQ K Z (.exit id) fr h = Z (.exit id) fr h := rfl
theorem tQr {K : AFrame → AHeap → Prop} : thenQ K Z .ret fr h = Z .ret fr h := rfl
theorem bQn : blockQ id Z .normal fr h = Z .normal fr h := rfl
theorem bQe {i : Nat} : blockQ id Z (.exit i) fr h = if i = id then Z .normal fr h else Z (.exit i) fr h := rfl
theorem bQr : blockQ id Z .ret fr h = Z .ret fr h := rfl
theorem rQn {rs : List ResultVar} {K : Value → AHeap → Prop} : retQ c rs K .normal fr h = someP (resA c.P fr h rs) fun vs => K (oneA vs) h := rfl
theorem rQr {rs : List ResultVar} {K : Value → AHeap → Prop} : retQ c rs K .ret fr h = someP (resA c.P fr h rs) fun vs => K (oneA vs) h := rfl
theorem res_n {K : List Value → Prop} : someP (resA P fr h []) K = K [] := someP_s
theorem res_t {t : Tmp} {l : List ResultVar} {K : List Value → Prop} : someP (resA P fr h (.tmp t :: l)) K = someP (resA P fr h l) fun vs => K (fget fr t :: vs) := by
  simp only [resA]
  cases resA P fr h l <;> simp [someP_n, someP_s]
theorem res_c {a : Tmp} {u : TypeId} {l : List ResultVar} {K : List Value → Prop} : someP (resA P fr h (.cell a u :: l)) K = someP (loadA P h u (fget fr a)) fun v => someP (resA P fr h l) fun vs => K (v :: vs) := by
  simp only [resA]
  cases loadA P h u (fget fr a) <;> cases resA P fr h l <;> simp [someP_n, someP_s]
theorem one1 {v : Value} : oneA [v] = v := rfl
theorem one0 : oneA [] = .tuple #[] := rfl
theorem one2 {v w : Value} {l : List Value} : oneA (v :: w :: l) = .tuple (v :: w :: l).toArray := rfl
end
end Go.Abs
