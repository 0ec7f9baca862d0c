/- Abs27: structs compared. Conditions: none. -/
import Derived.Test.YtknhmkijmbcnhaaAbs26
import Derived.Laws.StructEq
set_option linter.unusedVariables false
set_option linter.unusedSimpArgs false
set_option maxRecDepth 100000
namespace Go.Abs
section
variable {P : Program} {α β : Type}
theorem qrun_bind (x : Sem α) (f : α → Sem β) : qrun P (x >>= f) = (qrun P x).bind fun a => qrun P (f a) := by
  show qrun P (Sem.bind x f) = _
  induction x with
  | pure a => rfl
  | program k ih => simp only [Sem.bind, qrun]; exact ih P
  | mark m k ih => simp only [Sem.bind, qrun]; exact ih
  | _ => rfl
theorem qrun_pure (a : α) : qrun P (pure a : Sem α) = some a := rfl
theorem qrun_program : qrun P program = some P := rfl
theorem qrun_under {t : TypeId} {d : TypeDesc} (h : P.underlying t = some d) : qrun P (underlying t) = some d := by
  unfold underlying
  simp only [qrun_bind, qrun_program, Option.bind_some, h]
  rfl
theorem qrun_struct (d : Nat) (t : TypeId) (xs ys : Array Value) {fs : Array Field} (ht : P.underlying t = some (.struct fs)) (hp : P.stoodInHeld t = false) :
    qrun P (Op.equalIn (d + 1) t (.agg xs) (.agg ys)) = qrun P (Op.eqFields d xs ys fs.toList) := by
  simp only [Op.equalIn, qrun_bind, qrun_under ht, Option.bind_some, qrun_program, hp, Bool.false_eq_true, if_false]
  rw [← Array.forIn_toList]
  generalize fs.toList = fs
  clear ht
  induction fs with
  | nil => rfl
  | cons f fs ih =>
    simp only [List.forIn_cons, Op.eqFields, qrun_bind]
    split
    · simp only [qrun_bind]
      cases qrun P (part f.type xs f.offset) with
      | none => rfl
      | some a =>
        simp only [Option.bind_some]
        cases qrun P (part f.type ys f.offset) with
        | none => rfl
        | some b =>
          simp only [Option.bind_some]
          cases qrun P (Op.equalIn d f.type a b) with
          | none => rfl
          | some r =>
            cases r
            · rfl
            · simp only [Option.bind_some, Bool.not_true, Bool.false_eq_true, if_false, qrun_pure]
              exact ih
    · simp only [qrun_pure, Option.bind_some]
      exact ih
/-- How two cells of a plain kind compare. -/
def eqCell : Value → Value → Bool
  | .int _ a, .int _ b => decide (a = b)
  | .bool a, .bool b => a == b
  | .string a, .string b => decide (a = b)
  | _, _ => false
/-- Is this a cell of this type. -/
def kindly (P : Program) (t : TypeId) : Value → Bool
  | .int k _ => match P.underlying t with | some (.int k') => decide (k' = k) | _ => false
  | .bool _ => match P.underlying t with | some .bool => true | _ => false
  | .string _ => match P.underlying t with | some .string => true | _ => false
  | _ => false
theorem qrun_cell (d : Nat) {t : TypeId} {a b : Value} (ha : kindly P t a = true) (hb : kindly P t b = true) : qrun P (Op.equalIn (d + 1) t a b) = some (eqCell a b) := by
  cases a with
  | bool x =>
    cases hu : P.underlying t with
    | none => simp [kindly, hu] at ha
    | some d =>
      cases d <;> simp [kindly, hu] at ha
      cases b <;> simp [kindly, hu] at hb
      simp only [Op.equalIn, qrun_bind, qrun_under hu, Option.bind_some, qrun_pure, eqCell]
  | int k n =>
    cases hu : P.underlying t with
    | none => simp [kindly, hu] at ha
    | some d =>
      cases d <;> simp [kindly, hu] at ha
      cases b <;> simp [kindly, hu] at hb
      subst ha; subst hb
      simp only [Op.equalIn, qrun_bind, qrun_under hu, Option.bind_some, if_true, qrun_pure, eqCell]
      congr 1
  | string x =>
    cases hu : P.underlying t with
    | none => simp [kindly, hu] at ha
    | some d =>
      cases d <;> simp [kindly, hu] at ha
      cases b <;> simp [kindly, hu] at hb
      simp only [Op.equalIn, qrun_bind, qrun_under hu, Option.bind_some, qrun_pure, eqCell]
      congr 1
      rw [beq_toListBytes, str_eq]
  | _ => simp [kindly] at ha
/-- Fields of plain kinds, one cell each, in order. -/
def flatFields (P : Program) : Nat → List Field → Bool
  | _, [] => true
  | n, f :: fs => f.name != "_" && f.offset == n && (isAggA P f.type == some false) && (sizeA P f.type == some 1) && flatFields P (n + 1) fs
def kindlyAll (P : Program) : List Field → List Value → Bool
  | [], [] => true
  | f :: fs, v :: vs => kindly P f.type v && kindlyAll P fs vs
  | _, _ => false
def eqCells : List Value → List Value → Bool
  | [], [] => true
  | a :: x, b :: y => eqCell a b && eqCells x y
  | _, _ => false
theorem qrun_part {u : TypeId} {cs : Array Value} {off : Nat} {v : Value} (ha : isAggA P u = some false) (hs : sizeA P u = some 1) (hv : cs[off]? = some v) : qrun P (part u cs off) = some v := by
  unfold isAggA at ha
  obtain ⟨i, hi, _⟩ : ∃ i, P.info? u = some i ∧ i.size = 1 := by simpa [sizeA] using hs
  have hlt := (Array.getElem?_eq_some_iff.1 hv).1
  split at ha
  · cases ha
  · cases ha
  · rename_i d h1 h2 hd
    unfold part isAgg
    simp only [qrun_bind, qrun_under hd, Option.bind_some]
    have hg : cs[off] = v := Option.some.inj (by rw [← Array.getElem?_eq_getElem hlt, hv])
    cases d <;> first | (exact absurd rfl (h1 _)) | (exact absurd rfl (h2 _ _)) | (simp [qrun_pure, hlt, hg])
  · cases ha
theorem qrun_fields (d : Nat) : ∀ (fs : List Field) (n : Nat) (xs ys : List Value) (as bs : Array Value), flatFields P n fs = true → kindlyAll P fs xs = true → kindlyAll P fs ys = true →
    (∀ (i : Nat) v, xs[i]? = some v → as[n + i]? = some v) → (∀ (i : Nat) v, ys[i]? = some v → bs[n + i]? = some v) → qrun P (Op.eqFields (d + 1) as bs fs) = some (eqCells xs ys)
  | [], n, xs, ys, as, bs, _, hx, hy, _, _ => by
    cases xs <;> cases ys <;> simp [kindlyAll] at hx hy
    rfl
  | f :: fs, n, [], _, as, bs, _, hx, _, _, _ => by simp [kindlyAll] at hx
  | f :: fs, n, _ :: _, [], as, bs, _, _, hy, _, _ => by simp [kindlyAll] at hy
  | f :: fs, n, x :: xs, y :: ys, as, bs, hf, hx, hy, ha, hb => by
    simp only [flatFields, Bool.and_eq_true, bne_iff_ne, beq_iff_eq] at hf
    obtain ⟨⟨⟨⟨h1, h2⟩, h3⟩, h4⟩, h5⟩ := hf
    simp only [kindlyAll, Bool.and_eq_true] at hx hy
    simp only [Op.eqFields]
    rw [if_pos h1]
    have e1 := qrun_part (P := P) (cs := as) (off := f.offset) h3 h4 (by rw [h2]; exact ha 0 x rfl)
    have e2 := qrun_part (P := P) (cs := bs) (off := f.offset) h3 h4 (by rw [h2]; exact hb 0 y rfl)
    simp only [qrun_bind, e1, e2, Option.bind_some, qrun_cell d hx.1 hy.1]
    have ih := qrun_fields d fs (n + 1) xs ys as bs h5 hx.2 hy.2 (fun i v hv => by rw [show n + 1 + i = n + (i + 1) by omega]; exact ha (i + 1) v (by simpa using hv)) (fun i v hv => by rw [show n + 1 + i = n + (i + 1) by omega]; exact hb (i + 1) v (by simpa using hv))
    cases hc : eqCell x y with
    | false => simp [eqCells, hc, qrun_pure]
    | true => simp only [Bool.not_true, Bool.false_eq_true, if_false, eqCells, hc, Bool.true_and]; exact ih
/-- Two structs of plain fields, compared. -/
theorem agg_cmp {t : TypeId} {fs : Array Field} (hu : P.underlying t = some (.struct fs)) (hp : P.stoodInHeld t = false) (hm : P.eqGuardType P.depth t = false) (hf : flatFields P 0 fs.toList = true)
    {xs ys : List Value} (hx : kindlyAll P fs.toList xs = true) (hy : kindlyAll P fs.toList ys = true) (px : plainV 4 (.agg xs.toArray) = true) (py : plainV 4 (.agg ys.toArray) = true) {cx cy : Bool} :
    binA P .eql t cx cy (.agg xs.toArray) (.agg ys.toArray) = some (.bool (eqCells xs ys)) ∧ binA P .neq t cx cy (.agg xs.toArray) (.agg ys.toArray) = some (.bool (!eqCells xs ys)) := by
  have h0 := qrun_fields (P := P) 9998 fs.toList 0 xs ys xs.toArray ys.toArray hf hx hy (fun i v hv => by simpa using hv) (fun i v hv => by simpa using hv)
  have h1 : qrun P (Op.equal t (.agg xs.toArray) (.agg ys.toArray)) = some (eqCells xs ys) := by
    show qrun P (Op.equalIn (9999 + 1) t _ _) = _
    rw [qrun_struct 9999 t _ _ hu hp]
    exact h0
  have g1 : ∀ op, qrun P (eqGuard op t (.tmp 0) (.tmp 0) (.agg xs.toArray) (.agg ys.toArray)) = some () := by
    intro op
    cases op <;> simp [eqGuard, qrun_bind, qrun_program, qrun_pure, hm]
  constructor
  · simp only [binA, px, py, Bool.and_self, if_true, qrun_bind, g1, Option.bind_some]
    have : qrun P (binOp .eql t (.agg xs.toArray) (.agg ys.toArray)) = some (.bool (eqCells xs ys)) := by
      simp only [binOp, qrun_bind, h1, Option.bind_some, qrun_pure]
    rw [this]; rfl
  · simp only [binA, px, py, Bool.and_self, if_true, qrun_bind, g1, Option.bind_some]
    have : qrun P (binOp .neq t (.agg xs.toArray) (.agg ys.toArray)) = some (.bool (!eqCells xs ys)) := by
      simp only [binOp, qrun_bind, h1, Option.bind_some, qrun_pure]
    rw [this]; rfl
end
end Go.Abs
