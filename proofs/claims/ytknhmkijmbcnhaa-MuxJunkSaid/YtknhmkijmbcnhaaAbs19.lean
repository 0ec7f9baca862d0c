/- Abs19: a region that draws its order: the theorem. Conditions: none. -/
import Derived.Test.YtknhmkijmbcnhaaAbs18
set_option linter.unusedVariables false
set_option linter.unusedSimpArgs false
namespace Go.Abs
section
variable {c : Ctx} {B : Nat} {call : CallF} {n : Nat} {ops : Array Oper} {F : Nat → AFrame} {H : Nat → AHeap} {V : Nat → Value}
def mtA (ops : Array Oper) : Nat → Bool := mutA ops (ancA ops.toList [])
/-- It does more than add blocks. -/
def Mu (H : Nat → AHeap) (i : Nat) : Prop := ¬ ∃ t, H (i + 1) = H i ++ t
theorem at_some {i : Nat} (hi : i < ops.size) : ∃ o, ops[i]? = some o := ⟨_, Array.getElem?_eq_getElem hi⟩
theorem chk_at (hchk : chkA ops = true) {i : Nat} {o : Oper} (ho : ops[i]? = some o) :
    (pureOp o.op || extOp o.op || callOp o.op || mtA ops i) = true ∧ (∀ cs b, o.op ≠ .select cs b) ∧ (∀ e ∈ o.after, Region.binds .any e = true → e.on < i) ∧
      (∀ (j : Nat) p, j < i → ops[j]? = some p → p.apart ops o = true ∨ j ∈ (ancA ops.toList []).getD i []) := by
  have hi : i < ops.size := (Array.getElem?_eq_some_iff.1 ho).1
  have h := List.all_eq_true.1 hchk i (List.mem_range.2 hi)
  simp only [chkOne, ho, Bool.and_eq_true] at h
  obtain ⟨⟨⟨h1, h2⟩, h3⟩, h4⟩ := h
  refine ⟨h1, (fun cs b hh => by rw [hh] at h2; cases h2), fun e he hb => ?_, fun j p hj hp => ?_⟩
  · have := Array.all_eq_true_iff_forall_mem.1 h3 e he
    simpa [hb] using this
  · have := List.all_eq_true.1 h4 j (List.mem_range.2 hj)
    simp only [hp, Bool.or_eq_true, List.contains_iff_mem] at this
    exact this
theorem mt_at {i j : Nat} (h : mtA ops i = true) (hj : j < ops.size) (hne : j ≠ i) (hp : pureAt ops j = false) :
    (j < i → j ∈ (ancA ops.toList []).getD i []) ∧ (i < j → i ∈ (ancA ops.toList []).getD j []) := by
  have := List.all_eq_true.1 h j (List.mem_range.2 hj)
  simp only [Bool.or_eq_true, beq_iff_eq, hne, false_or, hp, Bool.false_eq_true] at this
  split at this
  · rename_i hlt
    exact ⟨fun _ => by simpa using this, fun h => by omega⟩
  · rename_i hlt
    exact ⟨fun h => absurd h hlt, fun _ => by simpa using this⟩
/-- A load j that is not ordered against the step i, which leaves what it reads as it was. -/
def FlexJ (c : Ctx) (ops : Array Oper) (F : Nat → AFrame) (H : Nat → AHeap) (j i : Nat) : Prop :=
  looksFree ops j i = true ∧ ∃ o t x, ops[j]? = some o ∧ o.op = .load t x ∧ (wantA ops (F i) o = false ∨ ∃ a, evA c (F i) x = some a ∧ loadA c.P (H i) t a = loadA c.P (H (i + 1)) t a)
theorem mu_ord (hT : Trace c call n ops (mtF c ops) F H V) {i : Nat} (hi : i < ops.size) (hmu : Mu H i) : pureAt ops i = false ∧ ∀ j, j < ops.size → j ≠ i → pureAt ops j = false →
    ((j < i → j ∈ (ancA ops.toList []).getD i []) ∧ (i < j → i ∈ (ancA ops.toList []).getD j [])) ∨ (j < i ∧ FlexJ c ops F H j i) := by
  obtain ⟨o, ho⟩ := at_some hi
  obtain ⟨hp, hs⟩ := hT.step i o ho
  rcases hs with ⟨h1, h2, h3⟩ | ⟨h1, h2, h3⟩
  · have hno : (pureOp o.op || extOp o.op) = false := by
      cases hh : (pureOp o.op || extOp o.op) with
      | false => rfl
      | true => exact absurd (evOp_ext hh h2) hmu
    simp only [Bool.or_eq_false_iff] at hno
    simp only [hno.1, hno.2, Bool.false_or, Bool.or_eq_true, decide_eq_true_eq] at h3
    refine ⟨by simp [pureAt, ho, hno.1], fun j hj hne hpj => ?_⟩
    rcases h3 with h3 | h3
    · simp only [mtF, Bool.or_eq_true] at h3
      rcases h3 with h3 | h3
      · exact .inl (mt_at h3 hj hne hpj)
      · have h4 := List.all_eq_true.1 h3 j (List.mem_range.2 hj)
        simp only [Bool.or_eq_true, beq_iff_eq, hne, false_or, hpj, Bool.false_eq_true] at h4
        rcases h4 with h4 | h4
        · left
          split at h4
          · rename_i hlt
            exact ⟨fun _ => by simpa using h4, fun h => by omega⟩
          · rename_i hlt
            exact ⟨fun h => absurd h hlt, fun _ => by simpa using h4⟩
        · right
          simp only [Bool.and_eq_true, decide_eq_true_eq] at h4
          obtain ⟨⟨h5, h6⟩, h7⟩ := h4
          obtain ⟨p, hp⟩ := at_some hj
          refine ⟨h5, h6, p, ?_⟩
          rw [hp] at h7
          simp only at h7
          split at h7
          · rename_i t x hop
            refine ⟨t, x, hp, hop, ?_⟩
            simp only [Bool.or_eq_true, Bool.not_eq_true'] at h7
            rcases h7 with h7 | h7
            · exact .inl h7
            · split at h7
              · rename_i a ha
                exact .inr ⟨a, ha, of_decide_eq_true h7⟩
              · cases h7
          · cases h7
    · exact absurd ⟨(H (i + 1)).drop (H i).length, by conv => lhs; rw [← List.take_append_drop (H i).length (H (i + 1)), h3]⟩ hmu
  · exact absurd ⟨[], by simp [h3]⟩ hmu
theorem turn_pure (hT : Trace c call n ops (mtF c ops) F H V) {i : Nat} (hi : i < ops.size) (hne : H (i + 1) ≠ H i) : pureAt ops i = false := by
  obtain ⟨o, ho⟩ := at_some hi
  obtain ⟨hp, hs⟩ := hT.step i o ho
  rcases hs with ⟨h1, h2, h3⟩ | ⟨h1, h2, h3⟩
  · cases hh : pureOp o.op with
    | false => simp [pureAt, ho, hh]
    | true =>
      unfold evOp at h2
      rw [if_pos hh] at h2
      simp only [Option.map_eq_some_iff] at h2
      obtain ⟨x, _, hx⟩ := h2
      simp only [Prod.mk.injEq] at hx
      exact absurd hx.2.symm hne
  · exact absurd h3 hne
theorem len_step (hcl : CallLen call) (hT : Trace c call n ops (mtF c ops) F H V) {i : Nat} (hi : i < ops.size) : (H i).length ≤ (H (i + 1)).length := by
  obtain ⟨o, ho⟩ := at_some hi
  obtain ⟨hp, hs⟩ := hT.step i o ho
  rcases hs with ⟨h1, h2, h3⟩ | ⟨h1, h2, h3⟩
  · exact evOp_len hcl h2
  · rw [h3]; exact Nat.le_refl _
theorem len_mono (hcl : CallLen call) (hT : Trace c call n ops (mtF c ops) F H V) {i : Nat} : ∀ d, i + d ≤ ops.size → (H i).length ≤ (H (i + d)).length
  | 0, _ => Nat.le_refl _
  | d + 1, h => Nat.le_trans (len_mono hcl hT d (by omega)) (len_step hcl hT (i := i + d) (by omega))
theorem len_le (hcl : CallLen call) (hT : Trace c call n ops (mtF c ops) F H V) {i j : Nat} (hij : i ≤ j) (hj : j ≤ ops.size) : (H i).length ≤ (H j).length := by
  have := len_mono hcl hT (i := i) (j - i) (by omega)
  rwa [show i + (j - i) = j by omega] at this
theorem chain {i : Nat} : ∀ d, (∀ k, i ≤ k → k < i + d → ¬ Mu H k) → ∃ t, H (i + d) = H i ++ t
  | 0, _ => ⟨[], by simp⟩
  | d + 1, h => by
    obtain ⟨t, ht⟩ := chain d (fun k h1 h2 => h k h1 (by omega))
    have := h (i + d) (by omega) (by omega)
    unfold Mu at this
    have := Classical.not_not.1 this
    obtain ⟨t2, ht2⟩ := this
    exact ⟨t ++ t2, by rw [← Nat.add_assoc, ht2, ht, List.append_assoc]⟩
theorem chain_le {i j : Nat} (hij : i ≤ j) (h : ∀ k, i ≤ k → k < j → ¬ Mu H k) : ∃ t, H j = H i ++ t := by
  obtain ⟨t, ht⟩ := chain (H := H) (i := i) (j - i) (fun k h1 h2 => h k h1 (by omega))
  exact ⟨t, by rw [← ht]; congr 1; omega⟩
theorem next_mu (m : Nat) : ∀ (d i : Nat), i + d = m → ∃ q, i ≤ q ∧ q ≤ m ∧ (∀ k, i ≤ k → k < q → ¬ Mu H k) ∧ (q < m → Mu H q)
  | 0, i, h => ⟨m, by omega, Nat.le_refl _, fun k h1 h2 => by omega, fun h => by omega⟩
  | d + 1, i, h => by
    by_cases hm : Mu H i
    · exact ⟨i, Nat.le_refl _, by omega, fun k h1 h2 => by omega, fun _ => hm⟩
    · obtain ⟨q, h1, h2, h3, h4⟩ := next_mu m d (i + 1) (by omega)
      refine ⟨q, by omega, h2, fun k h5 h6 => ?_, h4⟩
      by_cases hk : k = i
      · subst hk; exact hm
      · exact h3 k (by omega) h6
/-- What the temporaries hold: of the operations that have come up, the last in the text that writes there. -/
def Fv (ops : Array Oper) (fr : AFrame) (V : Nat → Value) (listed : Array Bool) : Nat → Nat → Value
  | 0, t => fget fr t
  | k + 1, t => if listed.getD k false = true ∧ (ops[k]?).bind (·.dst) = some t then V k else Fv ops fr V listed k t
theorem put_get {n : Nat} {fr fr' : AFrame} {dst : Option Tmp} {v : Value} (h : putA n fr dst v = some fr') (t : Nat) : fget fr' t = if dst = some t then v else fget fr t := by
  unfold putA at h
  cases dst with
  | none => simp at h; subst h; simp
  | some d =>
    simp only at h
    split at h
    · cases h
      by_cases ht : t = d
      · subst ht; rw [fget_fset_same, if_pos rfl]
      · rw [fget_fset_ne _ _ _ _ ht, if_neg (by simp; exact fun hh => ht hh.symm)]
    · cases h
/-- An operation that writes what another one looks at, or writes, is ordered against it. -/
theorem apart_of (x y : Oper) {t : Nat} (hx : x.dst = some t) (hy : t ∈ y.looksAt ops ∨ y.dst = some t) : x.apart ops y = false ∧ y.apart ops x = false := by
  constructor
  · cases hh : x.apart ops y with
    | false => rfl
    | true =>
      obtain ⟨h1, h2, h3⟩ := Oper.apart_spec hh
      rcases hy with hy | hy
      · exact absurd hy (h1 t hx)
      · exact absurd hy (h2 t hx)
  · cases hh : y.apart ops x with
    | false => rfl
    | true =>
      obtain ⟨h1, h2, h3⟩ := Oper.apart_spec hh
      rcases hy with hy | hy
      · exact absurd hy (h3 t hx)
      · exact absurd hx (h2 t hy)
/-- The operations that have come up are closed under what comes ahead. -/
def DC (ops : Array Oper) (listed : Array Bool) : Prop := ∀ (j : Nat) (o : Oper), ops[j]? = some o → listed.getD j false = true → ∀ e ∈ o.after, Region.binds .any e = true → listed.getD e.on false = true
theorem dc_anc {listed : Array Bool} (h : DC ops listed) {j a : Nat} (hj : listed.getD j false = true) (ha : a ∈ (ancA ops.toList []).getD j []) : listed.getD a false = true :=
  anc_prop ops (fun i => listed.getD i false = true) h ops.toList [] (fun i => by simp) (fun i a ha => by simp at ha) j a ha hj
theorem dc_anc_ready {listed : Array Bool} (h : DC ops listed) {i a : Nat} {o : Oper} (ho : ops[i]? = some o) (hr : ∀ e ∈ o.after, Region.binds .any e = true → listed.getD e.on false = true) (ha : a ∈ (ancA ops.toList []).getD i []) : listed.getD a false = true ∨ a = i := by
  refine anc_prop ops (fun j => listed.getD j false = true ∨ j = i) ?_ ops.toList [] (fun i => by simp) (fun i a ha => by simp at ha) i a ha (.inr rfl)
  intro j p hp hj e he hb
  rcases hj with hj | rfl
  · exact .inl (h j p hp hj e he hb)
  · rw [ho] at hp; cases hp; exact .inl (hr e he hb)
end
end Go.Abs
