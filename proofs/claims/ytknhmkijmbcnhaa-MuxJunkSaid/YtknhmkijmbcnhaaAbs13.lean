/- Abs13: an operation, whatever it is. Conditions: none. -/
import Derived.Test.YtknhmkijmbcnhaaAbs12
set_option linter.unusedVariables false
set_option linter.unusedSimpArgs false
namespace Go.Abs
def CallLen (call : CallF) : Prop := ∀ f args h v h', call f args h = some (v, h') → h.length ≤ h'.length
/-- A call of f: of a function with a text; or of one that the model stands in for, done in one step. -/
def CallOK (P : Program) (f : FuncId) (args : Array Value) (w : World) (R : Ending → World → Prop) : Prop :=
  ((callFunc f args).run P w = .ok (.enter f args) w ∧ Calls P f args w R) ∨ ∃ v w', (callFunc f args).run P w = .ok (.value v) w' ∧ R (.returned v) w'
def CallSim (c : Ctx) (B : Nat) (call : CallF) : Prop :=
  ∀ f args h v h', call f args h = some (v, h') → ∀ E w args', Sim c.G B E h w → LR E args args' → Free E h h' →
    CallOK c.P f args'.toArray w fun e w' => ∃ E' v', e = .returned v' ∧ Post c.G B E E' h h' w w' ∧ VR E' v v'
theorem buildSliceA_ext {P : Program} {t : TypeId} {len : Nat} {ps : List (Nat × Value)} {h h' : AHeap} {v : Value} (hb : buildSliceA P t len ps h = some (v, h')) : ∃ x, h' = h ++ [x] := by
  simp only [buildSliceA, newA] at hb
  repeat' split at hb
  all_goals first | (cases hb; done) | (cases hb; exact ⟨_, rfl⟩)
theorem makeSliceA_ext {P : Program} {t : TypeId} {l m : Value} {h h' : AHeap} {v : Value} (hb : makeSliceA P t l m h = some (v, h')) : ∃ x, h' = h ++ [x] := by
  simp only [makeSliceA, newA] at hb
  repeat' split at hb
  all_goals first | (cases hb; done) | (cases hb; exact ⟨_, rfl⟩)
theorem convA_ext {P : Program} {s d : TypeId} {x : Value} {h h' : AHeap} {v : Value} (hb : convA P s d x h = some (v, h')) : h' = h ∨ ∃ x, h' = h ++ [x] := by
  simp only [convA, newA] at hb
  repeat' split at hb
  all_goals first | (cases hb; done) | (cases hb; first | exact .inl rfl | exact .inr ⟨_, rfl⟩)
theorem writeA_len {h h' : AHeap} {b o : Nat} {vs : List Value} (hw : writeA h b o vs = some h') : h'.length = h.length := by
  unfold writeA at hw
  repeat' split at hw
  all_goals first | (cases hw; done) | (cases hw; simp)
theorem appendA_len {P : Program} {t : TypeId} {x y : Value} {h h' : AHeap} {v : Value} (ha : appendA P t x y h = some (v, h')) : h.length ≤ h'.length := by
  simp only [appendA, newA] at ha
  repeat' split at ha
  all_goals first | (cases ha; done) | (cases ha; simp)
theorem copyA_len {P : Program} {t : TypeId} {x y : Value} {h h' : AHeap} {v : Value} (ha : copyA P t x y h = some (v, h')) : h.length ≤ h'.length := by
  unfold copyA at ha
  repeat' split at ha
  all_goals first | (cases ha; done) | (cases ha; exact Nat.le_refl _) | skip
  simp only [Option.map_eq_some_iff] at ha
  obtain ⟨h2, hw, hh⟩ := ha
  cases hh
  rw [writeA_len hw]; exact Nat.le_refl _
theorem evOp_ext {c : Ctx} {call : CallF} {fr : AFrame} {op : Op} {h h' : AHeap} {v : Value} (hp : (pureOp op || extOp op) = true) (he : evOp c call fr op h = some (v, h')) : ∃ t, h' = h ++ t := by
  unfold evOp at he
  split at he
  · simp only [Option.map_eq_some_iff] at he
    obtain ⟨x, _, hh⟩ := he
    cases hh; exact ⟨[], by simp⟩
  · rename_i hpure
    cases op <;> simp [hpure, extOp] at hp <;> simp only [] at he
    case alloc t => split at he <;> first | (cases he; done) | (cases he; exact ⟨_, rfl⟩)
    case box t x => split at he <;> first | (cases he; done) | (cases he; exact ⟨_, rfl⟩)
    case buildSlice t l ps =>
      split at he
      · obtain ⟨x, rfl⟩ := buildSliceA_ext he; exact ⟨_, rfl⟩
      · cases he
    case load t x =>
      split at he
      · simp only [Option.map_eq_some_iff] at he; obtain ⟨x, _, hh⟩ := he; cases hh; exact ⟨[], by simp⟩
      · cases he
    case convert s d x =>
      split at he
      · rcases convA_ext he with rfl | ⟨x, rfl⟩
        · exact ⟨[], by simp⟩
        · exact ⟨_, rfl⟩
      · cases he
    case makeSlice t l m =>
      split at he
      · obtain ⟨x, rfl⟩ := makeSliceA_ext he; exact ⟨_, rfl⟩
      · cases he
    case slice t x lo hi mx =>
      cases mx with
      | some _ => simp at he
      | none =>
        simp only [] at he
        split at he
        · simp only [Option.map_eq_some_iff] at he; obtain ⟨x, _, hh⟩ := he; cases hh; exact ⟨[], by simp⟩
        · cases he
    case range t x => split at he <;> first | (cases he; done) | (cases he; exact ⟨_, rfl⟩)
theorem evOp_len {c : Ctx} {call : CallF} {fr : AFrame} {op : Op} {h h' : AHeap} {v : Value} (hc : CallLen call) (he : evOp c call fr op h = some (v, h')) : h.length ≤ h'.length := by
  by_cases hp : (pureOp op || extOp op) = true
  · obtain ⟨t, rfl⟩ := evOp_ext hp he; simp
  · simp only [Bool.not_eq_true, Bool.or_eq_false_iff] at hp
    unfold evOp at he
    simp only [hp.1, Bool.false_eq_true, if_false] at he
    have hp2 := hp.2
    split at he
    all_goals try (simp [extOp] at hp2; done)
    · -- store
      split at he
      · simp only [Option.map_eq_some_iff] at he
        obtain ⟨x, hx, hh⟩ := he
        cases hh
        unfold storeA at hx
        repeat' split at hx
        all_goals first | (cases hx; done) | (rw [writeA_len hx]; exact Nat.le_refl _)
      · cases he
    · -- next
      repeat' split at he
      all_goals first | (cases he; done) | (cases he; simp)
    · -- append
      repeat' split at he
      all_goals first | (cases he; done) | exact appendA_len he
    · -- copy
      repeat' split at he
      all_goals first | (cases he; done) | exact copyA_len he
    · -- call
      split at he
      · exact hc _ _ _ _ _ he
      · cases he
    · cases he
end Go.Abs
