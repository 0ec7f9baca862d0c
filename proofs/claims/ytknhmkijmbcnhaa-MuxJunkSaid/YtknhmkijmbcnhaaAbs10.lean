/- Abs10: slices and strings: cut, converted, appended to, copied. Conditions: none. -/
import Derived.Test.YtknhmkijmbcnhaaAbs9
set_option linter.unusedVariables false
set_option linter.unusedSimpArgs false
namespace Go.Abs
section
variable {G : Nat → Option Nat} {B : Nat} {E : Env} {h h' : AHeap} {w : World} {P : Program}
def OVR (E : Env) : Option Value → Option Value → Prop
  | none, none => True
  | some v, some v' => VR E v v'
  | _, _ => False
theorem run_bound {x : Value} {d i y : Nat} {x' : Value} (hx : VR E x x') (hb : boundA d (some x) = some i) (hy : i ≤ y) (code : BoundsCode) (w : World) : (Instr.sliceBound x' y code).run P w = .ok i w := by
  unfold boundA at hb
  split at hb
  · rename_i hh; cases hh
  · rename_i k m hh
    cases hh
    split at hb
    · rename_i h0
      cases hb
      cases hx
      simp only [Instr.sliceBound, asIntOf, Sem.run_bind, Sem.run_pure, Result.andThen_ok]
      rw [if_pos ⟨h0, by omega⟩]
      rfl
    · cases hb
  · cases hb
/-- The model's bounds, where the slice may have more room than is told. -/
theorem run_bounds {lo hi lo' hi' : Option Value} {n cap l r : Nat} (hlo : OVR E lo lo') (hhi : OVR E hi hi') (hcap : n ≤ cap) (hb : boundsA n lo hi = some (l, r)) (isS : Bool) (w : World) :
    (Instr.sliceBounds isS n cap lo' hi' none).run P w = .ok (l, r, cap) w ∧ l ≤ r ∧ r ≤ n := by
  unfold boundsA at hb
  split at hb
  case h_2 => cases hb
  rename_i l0 r0 h1 h2
  split at hb
  case isFalse => cases hb
  rename_i hc
  cases hb
  refine ⟨?_, hc.1, hc.2⟩
  cases hi with
  | none =>
    cases hi' with
    | some _ => exact hhi.elim
    | none =>
      simp only [boundA, Option.some.injEq] at h2
      subst h2
      cases lo with
      | none =>
        cases lo' with
        | some _ => exact hlo.elim
        | none => simp only [boundA, Option.some.injEq] at h1; subst h1; rfl
      | some x =>
        cases lo' with
        | none => exact hlo.elim
        | some x' =>
          simp only [Instr.sliceBounds, Sem.run_bind, Sem.run_pure, Result.andThen_ok, Option.isSome_none, Bool.false_eq_true, if_false, run_bound hlo h1 hc.1]
  | some y =>
    cases hi' with
    | none => exact hhi.elim
    | some y' =>
      have hy := fun code => run_bound (P := P) (y := cap) hhi h2 (by omega) code w
      cases lo with
      | none =>
        cases lo' with
        | some _ => exact hlo.elim
        | none =>
          simp only [boundA, Option.some.injEq] at h1; subst h1
          simp only [Instr.sliceBounds, Sem.run_bind, Sem.run_pure, Result.andThen_ok, hy]
      | some x =>
        cases lo' with
        | none => exact hlo.elim
        | some x' =>
          simp only [Instr.sliceBounds, Sem.run_bind, Sem.run_pure, Result.andThen_ok, hy, Option.isSome_none, Bool.false_eq_true, if_false, run_bound hlo h1 hc.1]
theorem slice_sim (s : Sim G B E h w) {t : TypeId} {x x' v : Value} {lo hi lo' hi' : Option Value} (hx : VR E x x') (hlo : OVR E lo lo') (hhi : OVR E hi hi') (hs : sliceA P t x lo hi h = some v) :
    ∃ v', (Instr.sliceAt t x' lo' hi' none).run P w = .ok v' w ∧ VR E v v' := by
  unfold sliceA at hs
  split at hs
  · rename_i st hu
    simp only [Option.map_eq_some_iff] at hs
    obtain ⟨⟨l, r⟩, hb, rfl⟩ := hs
    cases hx
    obtain ⟨h1, h2, h3⟩ := run_bounds (P := P) hlo hhi (Nat.le_refl _) hb false w
    refine ⟨_, ?_, .string _⟩
    simp only [Instr.sliceAt, Sem.run_bind, run_under hu, Result.andThen_ok, Instr.slice, Option.isSome_none, Bool.false_eq_true, if_false, h1, Sem.run_pure]
  · rename_i e hu
    split at hs
    · rename_i sz lr hsz hb
      obtain ⟨l, r⟩ := lr
      cases hs
      cases hx
      obtain ⟨h1, h2, h3⟩ := run_bounds (P := P) hlo hhi (Nat.le_refl 0) hb true w
      obtain rfl : r = 0 := by omega
      obtain rfl : l = 0 := by omega
      refine ⟨.slice none 0 0, ?_, .nilsl⟩
      simp only [Instr.sliceAt, Sem.run_bind, run_under hu, Result.andThen_ok, Instr.slice, h1, run_size hsz, Sem.run_pure]
      rfl
    · cases hs
  · rename_i e b o n m hu
    split at hs
    · rename_i l r size k hb hsz hk
      split at hs
      · rename_i hes
        cases hs
        obtain ⟨off, cap, en, rfl, he, g1, g2, g3⟩ : ∃ off cap en, x' = .slice (some ⟨en.blk, off, none⟩) n cap ∧ E b = some en ∧ n ≤ cap ∧ (cap ≠ 0 → off + cap * en.esz ≤ en.csz) ∧ (n ≠ 0 → off = en.base + o) := by
          cases hx with
          | sl he h1 h2 h3 => exact ⟨_, _, _, rfl, he, h1, h2, h3⟩
        obtain ⟨h1, h2, h3⟩ := run_bounds (P := P) hlo hhi g1 hb true w
        obtain ⟨_, _, _, _, _, hesz, _⟩ := s.obj b _ en (blkA_some hk) he
        have hes' : en.esz = size := by rw [← hesz]; exact hes
        refine ⟨.slice (if cap = l then some ⟨en.blk, off, none⟩ else some ⟨en.blk, off + l * size, none⟩) (r - l) (cap - l), ?_, ?_⟩
        · simp only [Instr.sliceAt, Sem.run_bind, run_under hu, Result.andThen_ok, Instr.slice, h1, run_size hsz, Sem.run_pure, Option.map_some, addr_add]
        · by_cases hc : cap = l
          · rw [if_pos hc]
            exact .sl he (by omega) (fun hh => by omega) (fun hh => by omega)
          · rw [if_neg hc]
            refine .sl he (by omega) (fun hh => ?_) (fun hh => ?_)
            · have : l * size + (cap - l) * size = cap * size := by rw [← Nat.add_mul]; congr 1; omega
              have g2' := g2 (by omega)
              rw [hes'] at g2' ⊢
              omega
            · have := g3 (by omega); omega
      · cases hs
    · cases hs
  · rename_i n e b o hu
    split at hs
    · rename_i l r size k hb hsz hk
      split at hs
      · rename_i hes
        cases hs
        cases hx
        rename_i en he
        obtain ⟨h1, h2, h3⟩ := run_bounds (P := P) hlo hhi (Nat.le_refl n) hb false w
        have hor := s.obj b _ en (blkA_some hk) he
        obtain ⟨c, el, fz, a1, a2, hesz, a4, a5⟩ := hor
        have hes' : en.esz = size := by rw [← hesz]; exact hes.1
        obtain ⟨hes0, hpos, hlen⟩ := hes
        have hfit : en.base + o + n * size ≤ en.csz := by
          have hlt : o + n * size - 1 < k.cells.length := by omega
          obtain ⟨v', p, _⟩ := a4 _ _ (List.getElem?_eq_getElem hlt)
          have := (Array.getElem?_eq_some_iff.1 p).1
          omega
        refine ⟨.slice (some (if n = l then ⟨en.blk, en.base + o, none⟩ else ⟨en.blk, en.base + o + l * size, none⟩)) (r - l) (n - l), ?_, ?_⟩
        · simp only [Instr.sliceAt, Sem.run_bind, run_under hu, Result.andThen_ok, Instr.sureAddr, h1, run_size hsz, Sem.run_pure, addr_add]
        · have hbound : (if n = l then (⟨en.blk, en.base + o, none⟩ : Addr) else ⟨en.blk, en.base + o + l * size, none⟩) = ⟨en.blk, if n = l then en.base + o else en.base + (o + l * size), none⟩ := by
            split <;> simp [Nat.add_assoc]
          rw [hbound]
          by_cases hc : n = l
          · rw [if_pos hc]
            exact .sl he (by omega) (fun hh => by omega) (fun hh => by omega)
          · rw [if_neg hc]
            refine .sl he (by omega) (fun _ => ?_) (fun _ => rfl)
            have : l * size + (n - l) * size = n * size := by rw [← Nat.add_mul]; congr 1; omega
            rw [hes']
            omega
      · cases hs
    · cases hs
  · cases hs
end
end Go.Abs
