/- PcapMerged, part 2 of 7: what the proof of the law rests on. Conditions: none. -/
import Derived.Test.YtgbhhkcppmikcaaJPcapMerged1
import Derived.Deep.LoopGhost
import Derived.WalkKit
import Derived.ProofKit
import Derived.OpenShut
import Derived.ShutString
import Derived.ChangeOld
import Derived.SizedLaws
import Derived.Laws.StructEq
set_option linter.unusedSimpArgs false
set_option linter.unusedVariables false
/- Abs20: a region that draws its order: the theorem. Conditions: none. -/
namespace Go.Abs
section
variable {c : Ctx} {B : Nat} {call : CallF} {n : Nat} {ops : Array Oper} {F : Nat → AFrame} {H : Nat → AHeap} {V : Nat → Value}
def Inv (c : Ctx) (B n : Nat) (ops : Array Oper) (H : Nat → AHeap) (V : Nat → Value) (E0 : Env) (fr : AFrame) (w0 : World) (ds : List Deferred) (listed : Array Bool) (a : Act) (w : World) : Prop :=
  listed.size = ops.size ∧ DC ops listed ∧ ∃ E q, PN c.G B E0 E (H 0) (H q) w0 w ∧ q ≤ ops.size ∧ (∀ j, j < q → Mu H j → listed.getD j false = true) ∧ (q < ops.size → Mu H q ∧ listed.getD q false = false) ∧
    (∀ id, E id ≠ E0 id → ∃ i, i < ops.size ∧ listed.getD i false = true ∧ (H i).length ≤ id ∧ id < (H (i + 1)).length) ∧ n ≤ a.tmps.size ∧
    (∀ t, VR E (Fv ops fr V listed ops.size t) (a.tmps.getD t undef)) ∧ a.defers = ds
theorem pure_any {f : AFrame} {op : Op} {h h' hh : AHeap} {v : Value} (hp : pureOp op = true) (he : evOp c call f op h = some (v, h')) : evOp c call f op hh = some (v, hh) ∧ h' = h := by
  unfold evOp at he ⊢
  rw [if_pos hp] at he ⊢
  simp only [Option.map_eq_some_iff] at he
  obtain ⟨x, hx, he⟩ := he
  simp only [Prod.mk.injEq] at he
  rw [hx, he.1]
  exact ⟨rfl, he.2.symm⟩
theorem put_tmps {a : Act} {dst : Option Tmp} {v : Value} (hd : ∀ d, dst = some d → d < a.tmps.size) (t : Nat) : (a.put dst v).tmps.getD t undef = if dst = some t then v else a.tmps.getD t undef := by
  cases dst with
  | none => simp [Act.put]
  | some d =>
    simp only [Act.put, Array.getD_eq_getD_getElem?]
    by_cases ht : d = t
    · subst ht
      rw [Array.getElem?_setIfInBounds_self_of_lt (hd d rfl), if_pos rfl]; rfl
    · rw [Array.getElem?_setIfInBounds_ne ht, if_neg (by simpa using ht)]
theorem list_set {listed : Array Bool} {i : Nat} (hi : i < listed.size) (j : Nat) : (listed.setIfInBounds i true).getD j false = true ↔ listed.getD j false = true ∨ j = i := by
  simp only [Array.getD_eq_getD_getElem?]
  by_cases hj : i = j
  · subst hj; rw [Array.getElem?_setIfInBounds_self_of_lt hi]; simp
  · rw [Array.getElem?_setIfInBounds_ne hj]
    constructor
    · exact fun h => .inl h
    · rintro (h | h)
      · exact h
      · exact absurd h.symm hj
theorem loadA_app {P : Program} {h g : AHeap} {t : TypeId} {a v : Value} (hl : loadA P h t a = some v) : loadA P (h ++ g) t a = some v := by
  unfold loadA at hl ⊢
  split at hl
  · rename_i b o
    cases hb : blkA h b with
    | none => simp [hb] at hl
    | some k =>
      have hb2 : blkA (h ++ g) b = some k := by
        unfold blkA at hb ⊢
        split at hb
        · rename_i hg
          rw [List.getElem?_append_left (List.getElem?_eq_some_iff.1 hg).1, hg]; exact hb
        · cases hb
      rw [hb] at hl
      rw [hb2]; exact hl
  · cases hl
theorem inv_step (hcl : CallLen call) (hcs : CallSim c B call) (hchk : chkA ops = true) (hT : Trace c call n ops (mtF c ops) F H V) {E0 : Env} {w0 : World} {ds : List Deferred} (hfree : Free E0 (H 0) (H ops.size)) {Q : Exit → Act → World → Prop}
    {listed : Array Bool} {a : Act} {w : World} (hinv : Inv c B n ops H V E0 (F 0) w0 ds listed a w) {i : Nat} (hr : i ∈ Region.ready .any ops listed) :
    wpOp c.P ops Q i (Inv c B n ops H V E0 (F 0) w0 ds (listed.setIfInBounds i true)) a w := by
  obtain ⟨hsz, hdc, E, q, hpn, hq1, hq2, hq3, hnew, hn, hval, hds⟩ := hinv
  obtain ⟨hun, o, ho, hdeps⟩ := mem_ready.1 hr
  have hi : i < ops.size := (Array.getElem?_eq_some_iff.1 ho).1
  have hil : i < listed.size := by omega
  have huni : listed.getD i false = false := by
    rw [Array.getD_eq_getD_getElem?] at hun ⊢
    rw [Array.getElem?_eq_getElem hil] at hun ⊢
    simpa using hun
  have hnl : ¬ listed.getD i false = true := by rw [huni]; simp
  have hset := list_set (listed := listed) hil
  have hdc' : DC ops (listed.setIfInBounds i true) := by
    intro j p hp hj e he hb
    rw [hset] at hj ⊢
    rcases hj with hj | rfl
    · exact .inl (hdc j p hp hj e he hb)
    · rw [ho] at hp; cases hp; exact .inl (hdeps e he hb)
  obtain ⟨hk1, hk2, hk3, hk4⟩ := chk_at hchk ho
  -- what comes behind i has not come up
  have hafter : ∀ k, i ∈ (ancA ops.toList []).getD k [] → ¬ listed.getD k false = true := fun k hk hl => hnl (dc_anc hdc hl hk)
  have hahead : ∀ k, k ≠ i → k ∈ (ancA ops.toList []).getD i [] → listed.getD k false = true := fun k hne hk => (dc_anc_ready hdc ho hdeps hk).resolve_right hne
  have hlook : ∀ t, t ∈ o.looksAt ops → ∀ k, k ≤ ops.size → Fv ops (F 0) V listed k t = fget (F (min k i)) t := by
    intro t ht k
    induction k with
    | zero => intro _; simp [Fv]
    | succ k ih =>
      intro hk
      obtain ⟨p, hp⟩ := at_some (ops := ops) (i := k) (by omega)
      have hpd : (ops[k]?).bind (·.dst) = p.dst := by rw [hp]; rfl
      simp only [Fv, hpd]
      by_cases hki : k < i
      · rw [show min (k + 1) i = k + 1 by omega, put_get (hT.step k p hp).1 t]
        by_cases hd : p.dst = some t
        · have hnap := (apart_of (ops := ops) p o hd (.inl ht)).1
          have hl := hahead k (by omega) ((hk4 k p hki hp).resolve_left (by rw [hnap]; simp))
          rw [if_pos ⟨hl, hd⟩, if_pos hd]
        · rw [if_neg (fun hh => hd hh.2), if_neg hd, ih (by omega), show min k i = k by omega]
      · rw [show min (k + 1) i = i by omega, if_neg, ih (by omega), show min k i = i by omega]
        rintro ⟨hl, hd⟩
        by_cases hke : k = i
        · subst hke; exact hnl hl
        · have hnap := (apart_of (ops := ops) p o hd (.inl ht)).2
          exact hafter k (((chk_at hchk hp).2.2.2 i o (by omega) ho).resolve_left (by rw [hnap]; simp)) hl
  have hFvnew : ∀ t k, k ≤ ops.size → Fv ops (F 0) V (listed.setIfInBounds i true) k t = if i < k ∧ o.dst = some t then V i else Fv ops (F 0) V listed k t := by
    intro t k
    induction k with
    | zero => intro _; simp [Fv]
    | succ k ih =>
      intro hk
      obtain ⟨p, hp⟩ := at_some (ops := ops) (i := k) (by omega)
      have hpd : (ops[k]?).bind (·.dst) = p.dst := by rw [hp]; rfl
      simp only [Fv, hpd]
      rw [ih (by omega)]
      by_cases hke : k = i
      · subst hke
        rw [ho] at hp; cases hp
        have h1 : (listed.setIfInBounds k true).getD k false = true := (hset k).2 (.inr rfl)
        simp only [h1, true_and, Nat.lt_irrefl, false_and, if_false, Nat.lt_succ_self, huni, Bool.false_eq_true]
      · have h1 : ((listed.setIfInBounds i true).getD k false = true) = (listed.getD k false = true) := by
          rw [eq_iff_iff, hset]; exact ⟨fun h => h.resolve_right hke, .inl⟩
        simp only [h1]
        by_cases hl : listed.getD k false = true ∧ p.dst = some t
        · rw [if_pos hl, if_pos hl, if_neg]
          rintro ⟨h2, h3⟩
          have hnap := (apart_of (ops := ops) p o hl.2 (.inr h3)).2
          exact hafter k (((chk_at hchk hp).2.2.2 i o (by omega) ho).resolve_left (by rw [hnap]; simp)) hl.1
        · rw [if_neg hl, if_neg hl]
          by_cases h2 : i < k ∧ o.dst = some t
          · rw [if_pos h2, if_pos ⟨by omega, h2.2⟩]
          · rw [if_neg h2, if_neg (fun h3 => h2 ⟨by omega, h3.2⟩)]
  have hFR : FR E n (pick (o.looksAt ops) (F i)) (pickAct (o.looksAt ops) a).tmps := by
    refine pick_FR hn fun t ht => ?_
    have h1 := hval t
    rw [hlook t ht ops.size (Nat.le_refl _), show min ops.size i = i by omega] at h1
    exact h1
  have hwant : Region.wanted o (yielded ops a.tmps) = wantA ops (F i) o := by
    rw [← wanted_pick, want_sim hFR, want_pick]
  obtain ⟨hput, hs⟩ := hT.step i o ho
  have hdst : ∀ d, o.dst = some d → d < a.tmps.size := by
    intro d hd
    rw [hd] at hput
    simp only [putA] at hput
    by_cases h1 : d < n
    · exact Nat.lt_of_lt_of_le h1 hn
    · rw [if_neg h1] at hput; cases hput
  -- what the temporaries hold behind it
  have hvals : ∀ E' v', E.le E' → VR E' (V i) v' → ∀ t, VR E' (Fv ops (F 0) V (listed.setIfInBounds i true) ops.size t) ((a.put o.dst v').tmps.getD t undef) := by
    intro E' v' hle hv t
    rw [hFvnew t ops.size (Nat.le_refl _), put_tmps hdst]
    by_cases hd : o.dst = some t
    · rw [if_pos ⟨hi, hd⟩, if_pos hd]; exact hv
    · rw [if_neg (fun h => hd h.2), if_neg hd]; exact (hval t).mono hle
  have hfin : ∀ E' q' v' w', PN c.G B E0 E' (H 0) (H q') w0 w' → q' ≤ ops.size → (∀ j, j < q' → Mu H j → (listed.setIfInBounds i true).getD j false = true) → (q' < ops.size → Mu H q' ∧ (listed.setIfInBounds i true).getD q' false = false) →
      (∀ id, E' id ≠ E id → (H i).length ≤ id ∧ id < (H (i + 1)).length) → E.le E' → VR E' (V i) v' → Inv c B n ops H V E0 (F 0) w0 ds (listed.setIfInBounds i true) (a.put o.dst v') w' := by
    intro E' q' v' w' h1 h2 h3 h4 h5 h6 h7
    refine ⟨by simpa using hsz, hdc', E', q', h1, h2, h3, h4, fun id hid => ?_, ?_, hvals E' v' h6 h7, ?_⟩
    · by_cases hh : E' id = E id
      · rw [hh] at hid
        obtain ⟨j, g1, g2, g3⟩ := hnew id hid
        exact ⟨j, g1, (hset j).2 (.inl g2), g3⟩
      · exact ⟨i, hi, (hset i).2 (.inr rfl), h5 id hh⟩
    · cases hd : o.dst with
      | none => simpa [Act.put] using hn
      | some d => simpa [Act.put] using hn
    · cases hd : o.dst <;> simpa [Act.put] using hds
  have hkeepq : ∀ (hne : i ≠ q), (∀ j, j < q → Mu H j → (listed.setIfInBounds i true).getD j false = true) ∧ (q < ops.size → Mu H q ∧ (listed.setIfInBounds i true).getD q false = false) := by
    intro hne
    refine ⟨fun j hj hm => (hset j).2 (.inl (hq2 j hj hm)), fun hlt => ⟨(hq3 hlt).1, ?_⟩⟩
    have h1 := (hq3 hlt).2
    cases hh : (listed.setIfInBounds i true).getD q false with
    | false => rfl
    | true =>
      rcases (hset q).1 hh with h2 | h2
      · rw [h1] at h2; cases h2
      · exact absurd h2.symm hne
  unfold wpOp
  simp only [ho, hwant]
  rcases hs with ⟨hw1, hop, hx⟩ | ⟨hw1, hv0, hh0⟩
  · rw [if_pos hw1]
    refine .inl ?_
    have hcongr : ∀ hh, evOp c call (pick (o.looksAt ops) (F i)) o.op hh = evOp c call (F i) o.op hh := fun hh => evOp_congr o.op (fun x hx => evA_pick fun t ht => looks_op (by rw [← ht]; exact hx)) hh
    have hexec : execOp a.eval o = execOp (pickAct (o.looksAt ops) a).eval o := execOp_congr o hk2 fun x hx => (eval_pick fun t ht => looks_op (by rw [← ht]; exact hx)).symm
    cases hpure : pureOp o.op with
    | true =>
      obtain ⟨h1, h2⟩ := pure_any (hh := H q) hpure hop
      have hne : i ≠ q := by
        intro hh
        subst hh
        exact absurd ⟨[], by simp [h2]⟩ (hq3 hi).1
      refine op_sim hcs hFR hpn.sim (fun id g1 g2 => by omega) ((hcongr _).trans h1) hexec fun E' v' w' hp hv => ?_
      exact hfin E' q v' w' (hpn.step (.of_post hp)) hq1 (hkeepq hne).1 (hkeepq hne).2 (fun id hid => by have := hp.new id hid; omega) hp.le hv
    | false =>
      have hnp : pureAt ops i = false := by simp [pureAt, ho, hpure]
      -- i is not behind q
      have hiq : i ≤ q := by
        rcases Nat.lt_or_ge q i with h1 | h1
        · have hqm := hq3 (by omega)
          rcases (mu_ord hT (by omega) hqm.1).2 i hi (by omega) hnp with g | g
          · have := hahead q (by omega) (g.2 h1)
            rw [hqm.2] at this; cases this
          · omega
        · exact h1
      have hfreei : Free E (H i) (H (i + 1)) := by
        intro id g1 g2
        by_cases hh : E id = E0 id
        · rw [hh]
          exact hfree id (Nat.le_trans (len_le hcl hT (Nat.zero_le i) (by omega)) g1) (Nat.lt_of_lt_of_le g2 (len_le hcl hT (by omega) (Nat.le_refl _)))
        · obtain ⟨j, j1, j2, j3, j4⟩ := hnew id hh
          rcases Nat.lt_trichotomy i j with h1 | h1 | h1
          · have := len_le hcl hT (i := i + 1) (j := j) (by omega) (by omega); omega
          · subst h1; exact absurd j2 hnl
          · have := len_le hcl hT (i := j + 1) (j := i) (by omega) (by omega); omega
      by_cases hmu : Mu H i
      · have hiq' : i = q := by
          rcases Nat.lt_or_ge i q with h1 | h1
          · exact absurd (hq2 i h1 hmu) hnl
          · omega
        subst hiq'
        have hmt := (mu_ord hT hi hmu).2
        refine op_sim hcs hFR hpn.sim hfreei ((hcongr _).trans hop) hexec fun E' v' w' hp hv => ?_
        obtain ⟨q', c1, c2, c3, c4⟩ := next_mu (H := H) ops.size (ops.size - (i + 1)) (i + 1) (by omega)
        obtain ⟨t, ht⟩ := chain_le (H := H) c1 c3
        have hbehind : ∀ j, i < j → j < ops.size → pureAt ops j = false → ¬ listed.getD j false = true := fun j h1 h2 h3 => by
          rcases hmt j h2 (by omega) h3 with g | g
          · exact hafter j (g.2 h1)
          · omega
        have hpn' : PN c.G B E0 E' (H 0) (H q') w0 w' := by
          rw [ht]
          refine (hpn.step (.of_post hp)).longer fun id g1 g2 => ?_
          rw [← ht] at g2
          have he' : E' id = E id := by
            by_cases hh : E' id = E id
            · exact hh
            · have := (hp.new id hh).2; omega
          rw [he']
          by_cases hh : E id = E0 id
          · rw [hh]
            exact hfree id (Nat.le_trans (len_le hcl hT (Nat.zero_le (i + 1)) (by omega)) g1) (Nat.lt_of_lt_of_le g2 (len_le hcl hT c2 (Nat.le_refl _)))
          · obtain ⟨j, j1, j2, j3, j4⟩ := hnew id hh
            have hji : i < j := by
              rcases Nat.lt_or_ge i j with h1 | h1
              · exact h1
              · have := len_le hcl hT (i := j + 1) (j := i + 1) (by omega) (by omega); omega
            have hjp := turn_pure hT j1 (fun hh => by rw [hh] at j4; omega)
            exact absurd j2 (hbehind j hji j1 hjp)
        refine hfin E' q' v' w' hpn' c2 (fun j hj hm => ?_) (fun hlt => ⟨c4 hlt, ?_⟩) hp.new hp.le hv
        · rcases Nat.lt_trichotomy j i with h1 | h1 | h1
          · exact (hset j).2 (.inl (hq2 j h1 hm))
          · exact (hset j).2 (.inr h1)
          · exact absurd hm (c3 j (by omega) hj)
        · cases hh : (listed.setIfInBounds i true).getD q' false with
          | false => rfl
          | true =>
            rcases (hset q').1 hh with h2 | h2
            · exact absurd h2 (hbehind q' (by omega) hlt (mu_ord hT hlt (c4 hlt)).1)
            · omega
      · have hne : i ≠ q := by
          intro hh; subst hh; exact hmu (hq3 hi).1
        by_cases hex : ∃ k, i + 1 ≤ k ∧ k < q ∧ Mu H k
        · -- a load; some steps that it isn't ordered against have come up already
          have hflex : ∀ k, i + 1 ≤ k → k < q → Mu H k → FlexJ c ops F H i k := fun k h1 h2 hm => by
            rcases (mu_ord hT (by omega) hm).2 i hi (by omega) hnp with g | g
            · exact absurd (hq2 k h2 hm) (hafter k (g.1 (by omega)))
            · exact g.2
          obtain ⟨k0, hk01, hk02, hk03⟩ := hex
          obtain ⟨_, o', t, x, ho', hopx, _⟩ := hflex k0 hk01 hk02 hk03
          rw [ho] at ho'; cases ho'
          have hfr : ∀ k, looksFree ops i k = true → i ≤ k → k ≤ ops.size → ∀ u, u ∈ o.looksAt ops → fget (F k) u = fget (F i) u := by
            intro k
            induction k with
            | zero => intro _ h1 _ u _; rw [show i = 0 by omega]
            | succ k ih =>
              intro hlf h1 h2 u hu
              by_cases hki : k + 1 = i
              · rw [hki]
              · have hlf' : looksFree ops i k = true := by
                  refine List.all_eq_true.2 fun p hp => List.all_eq_true.1 hlf p (List.mem_range.2 ?_)
                  have := List.mem_range.1 hp; omega
                obtain ⟨p, hp⟩ := at_some (ops := ops) (i := k) (by omega)
                have h3 := List.all_eq_true.1 hlf k (List.mem_range.2 (by omega))
                simp only [hp, ho, Bool.or_eq_true, decide_eq_true_eq] at h3
                rw [put_get (hT.step k p hp).1 u, ih hlf' (by omega) (by omega) u hu, if_neg]
                intro hd
                rcases h3 with h3 | h3
                · omega
                · rw [hd] at h3
                  simp only [Bool.not_eq_true', List.contains_eq_mem, decide_eq_false_iff_not] at h3
                  exact h3 hu
          have hcells : ∃ a, evA c (F i) x = some a ∧ loadA c.P (H i) t a = some (V i) ∧ H (i + 1) = H i := by
            have h1 := hop
            rw [hopx] at h1
            simp only [evOp, pureOp, Bool.false_eq_true, if_false] at h1
            split at h1
            · rename_i a ha
              simp only [Option.map_eq_some_iff, Prod.mk.injEq] at h1
              obtain ⟨y, h2, h3, h4⟩ := h1
              exact ⟨a, ha, by rw [h2, h3], h4.symm⟩
            · cases h1
          obtain ⟨ad, had, hld, hHi⟩ := hcells
          have hload : ∀ d, i + d ≤ q → loadA c.P (H (i + d)) t ad = some (V i) := by
            intro d
            induction d with
            | zero => intro _; exact hld
            | succ d ih =>
              intro hd
              have h1 := ih (by omega)
              by_cases hm : Mu H (i + d)
              · have hd0 : d ≠ 0 := by intro e; subst e; exact hmu hm
                obtain ⟨g1, o', t', x', g2, g3, g4⟩ := hflex (i + d) (by omega) (by omega) hm
                rw [ho] at g2; cases g2
                rw [hopx] at g3; cases g3
                have hfk := hfr (i + d) g1 (by omega) (by omega)
                have hev : evA c (F (i + d)) x = evA c (F i) x := by
                  cases x with
                  | tmp u => simp only [evA]; rw [hfk u (looks_op (by rw [hopx]; simp [Op.operands]))]
                  | _ => rfl
                have hwa : wantA ops (F (i + d)) o = wantA ops (F i) o := by
                  unfold wantA
                  cases hg : o.guard with
                  | none => rfl
                  | some jw =>
                    obtain ⟨j, want⟩ := jw
                    simp only
                    cases hdd : (ops[j]?).bind (·.dst) with
                    | none => rfl
                    | some u =>
                      have hu : u ∈ o.looksAt ops := by simp [Oper.looksAt, hg, hdd]
                      simp only [hfk u hu]
                rcases g4 with g4 | ⟨a', g4, g5⟩
                · rw [hwa, hw1] at g4; cases g4
                · rw [hev, had] at g4; cases g4
                  rw [← Nat.add_assoc, ← g5]; exact h1
              · obtain ⟨tt, htt⟩ := Classical.not_not.1 hm
                rw [← Nat.add_assoc, htt]
                exact loadA_app h1
          have hlq := hload (q - i) (by omega)
          rw [show i + (q - i) = q by omega] at hlq
          have hopq : evOp c call (F i) o.op (H q) = some (V i, H q) := by
            rw [hopx]
            simp only [evOp, pureOp, Bool.false_eq_true, if_false, had, hlq, Option.map_some]
          refine op_sim hcs hFR hpn.sim (fun id g1 g2 => by omega) ((hcongr _).trans hopq) hexec fun E' v' w' hp hv => ?_
          exact hfin E' q v' w' (hpn.step (.of_post hp)) hq1 (hkeepq hne).1 (hkeepq hne).2 (fun id hid => by have := hp.new id hid; omega) hp.le hv
        · have hnomu : ∀ k, i + 1 ≤ k → k < q → ¬ Mu H k := fun k h1 h2 hm => hex ⟨k, h1, h2, hm⟩
          obtain ⟨t1, ht1⟩ := Classical.not_not.1 hmu
          obtain ⟨t2, ht2⟩ := chain_le (H := H) (i := i + 1) (j := q) (by omega) hnomu
          have hHq : H q = H i ++ t1 ++ t2 := by rw [ht2, ht1]
          have hsq : Sim c.G B E (H i ++ t1 ++ t2) w := by rw [← hHq]; exact hpn.sim
          have hsi : Sim c.G B E (H i) w := by
            have := hsq
            rw [List.append_assoc] at this
            exact this.shorter
          refine op_sim hcs hFR hsi hfreei ((hcongr _).trans hop) hexec fun E' v' w' hp hv => ?_
          have hins : PN c.G B E E' (H q) (H q) w w' := by
            rw [hHq]
            exact PN.insert hsq (by rw [← ht1]; exact hp)
          exact hfin E' q v' w' (hpn.step hins) hq1 (hkeepq hne).1 (hkeepq hne).2 hp.new hp.le hv
  · rw [if_neg (by rw [hw1]; simp)]
    have hne : i ≠ q := by
      intro hh
      subst hh
      exact absurd ⟨[], by simp [hh0]⟩ (hq3 hi).1
    refine hfin E q undef w hpn hq1 (hkeepq hne).1 (hkeepq hne).2 (fun id hid => absurd rfl hid) (Env.le.refl E) ?_
    rw [hv0]; exact VR.undef E
/-- How many operations have not come up. -/
def cntU (m : Nat) (listed : Array Bool) : Nat := ((List.range m).filter fun j => !listed.getD j false).length
theorem filter_set {m : Nat} {listed : Array Bool} {i : Nat} (hi : i < m) (hl : i < listed.size) (hun : listed.getD i false = false) : cntU m (listed.setIfInBounds i true) + 1 = cntU m listed := by
  unfold cntU
  have key : ∀ (l : List Nat), l.Nodup → (i ∈ l → (l.filter fun j => !(listed.setIfInBounds i true).getD j false).length + 1 = (l.filter fun j => !listed.getD j false).length) ∧
      (i ∉ l → (l.filter fun j => !(listed.setIfInBounds i true).getD j false).length = (l.filter fun j => !listed.getD j false).length) := by
    intro l
    induction l with
    | nil => intro _; simp
    | cons x l ih =>
      intro hnd
      obtain ⟨h1, h2⟩ := List.nodup_cons.1 hnd
      obtain ⟨i1, i2⟩ := ih h2
      by_cases hx : x = i
      · subst hx
        have e1 : (listed.setIfInBounds x true).getD x false = true := (list_set hl x).2 (.inr rfl)
        refine ⟨fun _ => ?_, fun hh => absurd (by simp) hh⟩
        simp only [List.filter_cons, e1, hun, Bool.not_true, Bool.not_false, Bool.false_eq_true, if_false, if_true, List.length_cons]
        rw [i2 h1]
      · have e1 : (listed.setIfInBounds i true).getD x false = listed.getD x false := by
          rw [Bool.eq_iff_iff, list_set hl]; exact ⟨fun h => h.resolve_right hx, .inl⟩
        refine ⟨fun hh => ?_, fun hh => ?_⟩
        · have hm : i ∈ l := (List.mem_cons.1 hh).resolve_left (fun h => hx h.symm)
          simp only [List.filter_cons, e1]
          split
          · simp only [List.length_cons]; rw [← i1 hm]
          · exact i1 hm
        · have hm : i ∉ l := fun h => hh (List.mem_cons_of_mem _ h)
          simp only [List.filter_cons, e1]
          split
          · simp only [List.length_cons]; rw [i2 hm]
          · exact i2 hm
  exact (key (List.range m) List.nodup_range).1 (List.mem_range.2 hi)
theorem cnt_zero {m : Nat} {listed : Array Bool} (h : cntU m listed = 0) : ∀ j, j < m → listed.getD j false = true := by
  intro j hj
  unfold cntU at h
  have := List.eq_nil_of_length_eq_zero h
  rw [List.filter_eq_nil_iff] at this
  have h2 := this j (List.mem_range.2 hj)
  simpa using h2
theorem inv_end (hcl : CallLen call) (hT : Trace c call n ops (mtF c ops) F H V) {E0 : Env} {w0 : World} {ds : List Deferred} {Q : Exit → Act → World → Prop}
    (hQ : ∀ E' a' w', Post c.G B E0 E' (H 0) (H ops.size) w0 w' → FR E' n (F ops.size) a'.tmps → a'.defers = ds → Q .normal a' w') {listed : Array Bool} {a : Act} {w : World} (hinv : Inv c B n ops H V E0 (F 0) w0 ds listed a w)
    (hall : ∀ j, j < ops.size → listed.getD j false = true) : Q .normal a w := by
  obtain ⟨hsz, hdc, E, q, hpn, hq1, hq2, hq3, hnew, hn, hval, hds⟩ := hinv
  have hqm : q = ops.size := by
    rcases Nat.lt_or_ge q ops.size with h1 | h1
    · have := (hq3 h1).2; rw [hall q h1] at this; cases this
    · omega
  subst hqm
  refine hQ E a w ⟨hpn.le, len_le hcl hT (Nat.zero_le _) (Nat.le_refl _), fun id hid => ?_, hpn.sim, hpn.os, hpn.tape, hpn.output, hpn.size, hpn.frame, hpn.wr, hpn.fresh⟩ ⟨hn, fun t => ?_⟩ hds
  · obtain ⟨j, j1, j2, j3, j4⟩ := hnew id hid
    exact ⟨Nat.le_trans (len_le hcl hT (Nat.zero_le j) (by omega)) j3, Nat.lt_of_lt_of_le j4 (len_le hcl hT (by omega) (Nat.le_refl _))⟩
  · have h1 := hval t
    have key : ∀ k, k ≤ ops.size → Fv ops (F 0) V listed k t = fget (F k) t := by
      intro k
      induction k with
      | zero => intro _; rfl
      | succ k ih =>
        intro hk
        obtain ⟨p, hp⟩ := at_some (ops := ops) (i := k) (by omega)
        have hpd : (ops[k]?).bind (·.dst) = p.dst := by rw [hp]; rfl
        simp only [Fv, hpd]
        rw [put_get (hT.step k p hp).1 t, ih (by omega)]
        simp only [hall k (by omega), true_and]
    rw [key _ (Nat.le_refl _)] at h1
    exact h1
theorem any_sim (hcl : CallLen call) (hcs : CallSim c B call) (hchk : chkA ops = true) (hT : Trace c call n ops (mtF c ops) F H V) {E0 : Env} {w0 : World} {ds : List Deferred} (hfree : Free E0 (H 0) (H ops.size)) {Q : Exit → Act → World → Prop}
    (hQ : ∀ E' a' w', Post c.G B E0 E' (H 0) (H ops.size) w0 w' → FR E' n (F ops.size) a'.tmps → a'.defers = ds → Q .normal a' w') :
    ∀ (fuel : Nat) (listed : Array Bool) (a : Act) (w : World), cntU ops.size listed = fuel → Inv c B n ops H V E0 (F 0) w0 ds listed a w → wpAny c.P .any ops Q fuel listed a w
  | 0, listed, a, w, hc, hinv => by
    have hall := cnt_zero hc
    refine ⟨?_, inv_end hcl hT hQ hinv hall⟩
    rw [List.eq_nil_iff_forall_not_mem]
    intro j hj
    obtain ⟨h1, o, ho, _⟩ := mem_ready.1 hj
    have hjm : j < ops.size := (Array.getElem?_eq_some_iff.1 ho).1
    have h2 := hall j hjm
    have hjl : j < listed.size := by rw [hinv.1]; exact hjm
    rw [Array.getD_eq_getD_getElem?, Array.getElem?_eq_getElem hjl] at h1 h2
    simp at h1 h2
    rw [h1] at h2; cases h2
  | fuel + 1, listed, a, w, hc, hinv => by
    refine ⟨fun hempty => ?_, fun i hi => ?_⟩
    · -- the first operation that has not come up could come up
      refine inv_end hcl hT hQ hinv ?_
      intro j
      induction j using Nat.strongRecOn with
      | _ j ih =>
        intro hj
        cases hh : listed.getD j false with
        | true => rfl
        | false =>
          obtain ⟨o, ho⟩ := at_some hj
          have hjl : j < listed.size := by rw [hinv.1]; exact hj
          have hready : j ∈ Region.ready .any ops listed := by
            refine mem_ready.2 ⟨?_, o, ho, fun e he hb => ih e.on ((chk_at hchk ho).2.2.1 e he hb) (Nat.lt_trans ((chk_at hchk ho).2.2.1 e he hb) hj)⟩
            rw [Array.getD_eq_getD_getElem?, Array.getElem?_eq_getElem hjl] at hh ⊢
            exact hh
          rw [hempty] at hready
          cases hready
    · obtain ⟨h1, o, ho, _⟩ := mem_ready.1 hi
      have him : i < ops.size := (Array.getElem?_eq_some_iff.1 ho).1
      have hil : i < listed.size := by rw [hinv.1]; exact him
      have hun : listed.getD i false = false := by
        rw [Array.getD_eq_getD_getElem?, Array.getElem?_eq_getElem hil] at h1 ⊢
        exact h1
      have hcnt := filter_set him hil hun
      exact wpOp_mono (fun a' w' hv => any_sim hcl hcs hchk hT hfree hQ fuel _ a' w' (by omega) hv) (inv_step (Q := Q) hcl hcs hchk hT hfree hinv hi)
end
theorem draw_sim {c : Ctx} {B : Nat} {call : CallF} {n : Nat} (hm : c.P.follows .mixedOrders = true) (hcl : CallLen call) (hcs : CallSim c B call) {ops : Array Oper} (hchk : chkA ops = true) {id : Nat} {E : Env} {fr fr' : AFrame} {h h' : AHeap} {a : Act} {w : World} {Q : Exit → Act → World → Prop}
    (he : evDraw c call n ops (mtF c ops) ops.toList 0 fr h = some (fr', h')) (hf : FR E n fr a.tmps) (s : Sim c.G B E h w) (hfree : Free E h h')
    (hQ : ∀ E' a' w', Post c.G B E E' h h' w w' → FR E' n fr' a'.tmps → a'.defers = a.defers → Q .normal a' w') : (Code.region id ops true).wp c.P Q a w := by
  obtain ⟨F, H, V, f0, h0, fm, hmm, hs⟩ := trace_of ops _ _ _ _ _ _ _ he
  rw [Array.length_toList] at fm hmm
  have hT : Trace c call n ops (mtF c ops) F H V := ⟨fun i o ho => by have := hs i o (by simpa using ho); simpa [mtA] using this⟩
  subst f0; subst h0; subst fm; subst hmm
  refine wp_region_any hm ?_
  have hpost : Post c.G B E E (H 0) (H 0) w { w with drawn := w.drawn + 1 } := Post.of_drew s rfl rfl rfl rfl
  obtain ⟨q, c1, c2, c3, c4⟩ := next_mu (H := H) ops.size ops.size 0 (by omega)
  obtain ⟨t, ht⟩ := chain_le (H := H) c1 c3
  have hrep : ∀ j, (Array.replicate ops.size false).getD j false = false := fun j => by
    rw [Array.getD_eq_getD_getElem?, Array.getElem?_replicate]; split <;> rfl
  have hdc0 : DC ops (Array.replicate ops.size false) := fun j o _ hj => by rw [hrep] at hj; cases hj
  refine any_sim (E0 := E) (w0 := w) (ds := a.defers) hcl hcs hchk hT hfree hQ ops.size _ a _ ?_ ?_
  · unfold cntU
    rw [List.filter_eq_self.2 (fun j _ => by rw [hrep]; rfl)]
    simp
  · refine ⟨by simp, hdc0, E, q, ?_, c2, fun j hj hmu => absurd hmu (c3 j (Nat.zero_le _) hj), fun hlt => ⟨c4 hlt, hrep q⟩, fun id hid => absurd rfl hid, hf.1, fun t => ?_, rfl⟩
    · rw [ht]
      refine (PN.of_post hpost).longer fun id g1 g2 => ?_
      rw [← ht] at g2
      exact hfree id g1 (Nat.lt_of_lt_of_le g2 (len_le hcl hT c2 (Nat.le_refl _)))
    · have key : ∀ k, Fv ops (F 0) V (Array.replicate ops.size false) k t = fget (F 0) t := by
        intro k
        induction k with
        | zero => rfl
        | succ k ih => simp only [Fv, hrep, Bool.false_eq_true, false_and, if_false, ih]
      rw [key]
      exact hf.2 t
end Go.Abs
/- Abs17: code and functions: what the evaluator gives, the model's call gives, whatever the tape. Conditions: none. -/
namespace Go.Abs
def exitOf : AExit → Exit
  | .normal => .normal
  | .exit id => .exit id
  | .ret => .ret
section
variable {c : Ctx} {B : Nat} {call : CallF} {n : Nat}
theorem evRegion_len (hcl : CallLen call) {ops : Array Oper} {draw : Bool} {fr fr' : AFrame} {h h' : AHeap} (he : evRegion c call n ops draw fr h = some (fr', h')) : h.length ≤ h'.length := by
  unfold evRegion at he
  split at he
  · split at he
    · exact evDraw_len hcl _ _ _ _ _ _ _ _ he
    · cases he
  · exact evOps_len hcl ops _ _ _ _ _ he
theorem loopA_len {f : AFrame → AHeap → CodeR} (hf : ∀ fr h x fr' h', f fr h = some (x, fr', h') → h.length ≤ h'.length) : ∀ k fr h x fr' h', loopA f k fr h = some (x, fr', h') → h.length ≤ h'.length
  | 0, _, _, _, _, _, he => by simp [loopA] at he
  | k + 1, fr, h, x, fr', h', he => by
    simp only [loopA] at he
    split at he
    · rename_i fr1 h1 h2
      exact Nat.le_trans (hf _ _ _ _ _ h2) (loopA_len hf k _ _ _ _ _ he)
    · exact hf _ _ _ _ _ he
theorem evC_len (hcl : CallLen call) (k : Nat) : ∀ (cd : Code) (fr : AFrame) (h : AHeap) x fr' h', evC c call n k cd fr h = some (x, fr', h') → h.length ≤ h'.length := by
  intro cd
  induction cd with
  | skip => intro fr h x fr' h' he; simp only [evC, Option.some.injEq, Prod.mk.injEq] at he; rw [he.2.2]; exact Nat.le_refl _
  | ret => intro fr h x fr' h' he; simp only [evC, Option.some.injEq, Prod.mk.injEq] at he; rw [he.2.2]; exact Nat.le_refl _
  | exit id => intro fr h x fr' h' he; simp only [evC, Option.some.injEq, Prod.mk.injEq] at he; rw [he.2.2]; exact Nat.le_refl _
  | region id ops draw =>
    intro fr h x fr' h' he
    simp only [evC] at he
    split at he
    · rename_i hr; cases he; exact evRegion_len hcl hr
    · cases he
  | seq a b iha ihb =>
    intro fr h x fr' h' he
    simp only [evC] at he
    split at he
    · rename_i h1; exact Nat.le_trans (iha _ _ _ _ _ h1) (ihb _ _ _ _ _ he)
    · exact iha _ _ _ _ _ he
  | cond y a b iha ihb =>
    intro fr h x fr' h' he
    simp only [evC] at he
    split at he
    · exact iha _ _ _ _ _ he
    · exact ihb _ _ _ _ _ he
    · cases he
  | block id a iha =>
    intro fr h x fr' h' he
    simp only [evC] at he
    split at he
    · rename_i h1
      split at he
      · cases he; exact iha _ _ _ _ _ h1
      · cases he; exact iha _ _ _ _ _ h1
    · exact iha _ _ _ _ _ he
  | loop a iha => intro fr h x fr' h' he; simp only [evC] at he; exact loopA_len iha k _ _ _ _ _ he
  | rangeFunc f ps a b _ _ => intro fr h x fr' h' he; simp [evC] at he
  | scope a _ => intro fr h x fr' h' he; simp [evC] at he
  | label l => intro fr h x fr' h' he; simp [evC] at he
  | goto l => intro fr h x fr' h' he; simp [evC] at he
  | refuse y => intro fr h x fr' h' he; simp [evC] at he
/-- What is handed on behind a piece of code. -/
def CPost (c : Ctx) (B n : Nat) (E : Env) (h h' : AHeap) (w : World) (ds : List Deferred) (x : AExit) (fr' : AFrame) (e : Exit) (a' : Act) (w' : World) : Prop :=
  ∃ E', e = exitOf x ∧ Post c.G B E E' h h' w w' ∧ FR E' n fr' a'.tmps ∧ a'.defers = ds
theorem CPost.trans {E E1 : Env} {h h1 h2 : AHeap} {w w1 : World} {ds : List Deferred} {x : AExit} {fr' : AFrame} {e : Exit} {a' : Act} {w' : World} (p : Post c.G B E E1 h h1 w w1) (q : CPost c B n E1 h1 h2 w1 ds x fr' e a' w') : CPost c B n E h h2 w ds x fr' e a' w' :=
  let ⟨E', q1, q2, q3, q4⟩ := q
  ⟨E', q1, p.trans q2, q3, q4⟩
theorem code_sim (hm : c.P.follows .mixedOrders = true) (hcl : CallLen call) (hcs : CallSim c B call) (k : Nat) : ∀ (cd : Code) {E : Env} {fr : AFrame} {h : AHeap} {x : AExit} {fr' : AFrame} {h' : AHeap} {a : Act} {w : World}, evC c call n k cd fr h = some (x, fr', h') →
    FR E n fr a.tmps → Sim c.G B E h w → Free E h h' → cd.wp c.P (CPost c B n E h h' w a.defers x fr') a w := by
  intro cd
  induction cd with
  | skip =>
    intro E fr h x fr' h' a w he hf s hfree
    simp only [evC, Option.some.injEq, Prod.mk.injEq] at he
    obtain ⟨rfl, rfl, rfl⟩ := he
    exact wp_skip ⟨E, rfl, Post.refl s, hf, rfl⟩
  | ret =>
    intro E fr h x fr' h' a w he hf s hfree
    simp only [evC, Option.some.injEq, Prod.mk.injEq] at he
    obtain ⟨rfl, rfl, rfl⟩ := he
    exact wp_ret ⟨E, rfl, Post.refl s, hf, rfl⟩
  | exit id =>
    intro E fr h x fr' h' a w he hf s hfree
    simp only [evC, Option.some.injEq, Prod.mk.injEq] at he
    obtain ⟨rfl, rfl, rfl⟩ := he
    exact wp_exit ⟨E, rfl, Post.refl s, hf, rfl⟩
  | region id ops draw =>
    intro E fr h x fr' h' a w he hf s hfree
    simp only [evC] at he
    split at he
    · rename_i fr1 h1 hr
      cases he
      unfold evRegion at hr
      split at hr
      · rename_i hd
        subst hd
        split at hr
        · rename_i hchk
          exact draw_sim hm hcl hcs hchk hr hf s hfree fun E' a' w' hp hf' hd' => ⟨E', rfl, hp, hf', hd'⟩
        · cases hr
      · rename_i hd
        have hd' : draw = false := by simpa using hd
        subst hd'
        exact wp_region_list (ops_sim hcl hcs ops ops.toList hr hf s hfree fun E' a' w' hp hf' hd' => ⟨E', rfl, hp, hf', hd'⟩)
    · cases he
  | seq p q ihp ihq =>
    intro E fr h x fr' h' a w he hf s hfree
    simp only [evC] at he
    split at he
    · rename_i fr1 h1 h2
      have hle := evC_len hcl k q _ _ _ _ _ he
      refine wp_seq (wp_mono (ihp h2 hf s (hfree.left hle)) ?_)
      rintro e a1 w1 ⟨E1, rfl, hp, hf1, hd1⟩
      refine wp_mono (ihq he hf1 hp.sim (hfree.right hp)) ?_
      intro e2 a2 w2 hq
      rw [hd1] at hq
      exact hq.trans hp
    · rename_i hne
      refine wp_seq (wp_mono (ihp he hf s hfree) ?_)
      rintro e a1 w1 ⟨E1, rfl, hp, hf1, hd1⟩
      cases x with
      | normal => exact absurd he (hne _ _)
      | exit id => exact ⟨E1, rfl, hp, hf1, hd1⟩
      | ret => exact ⟨E1, rfl, hp, hf1, hd1⟩
  | cond y p q ihp ihq =>
    intro E fr h x fr' h' a w he hf s hfree
    simp only [evC] at he
    split at he
    · rename_i hy
      have hy' := evA_sim hf s.gr hy
      refine wp_cond (t := true) ?_ (ihp he hf s hfree)
      generalize a.eval y = z at hy'
      cases hy'; rfl
    · rename_i hy
      have hy' := evA_sim hf s.gr hy
      refine wp_cond (t := false) ?_ (ihq he hf s hfree)
      generalize a.eval y = z at hy'
      cases hy'; rfl
    · cases he
  | block id p ihp =>
    intro E fr h x fr' h' a w he hf s hfree
    simp only [evC] at he
    refine wp_block ?_
    split at he
    · rename_i i fr1 h1 h2
      split at he
      · rename_i hi
        cases he
        refine wp_mono (ihp h2 hf s hfree) ?_
        rintro e a1 w1 ⟨E1, rfl, hp, hf1, hd1⟩
        simp only [exitOf, Exit.inBlock, hi, if_true]
        exact ⟨E1, rfl, hp, hf1, hd1⟩
      · rename_i hi
        cases he
        refine wp_mono (ihp h2 hf s hfree) ?_
        rintro e a1 w1 ⟨E1, rfl, hp, hf1, hd1⟩
        simp only [exitOf, Exit.inBlock, hi, if_false]
        exact ⟨E1, rfl, hp, hf1, hd1⟩
    · rename_i hne
      refine wp_mono (ihp he hf s hfree) ?_
      rintro e a1 w1 ⟨E1, rfl, hp, hf1, hd1⟩
      cases x with
      | normal => exact ⟨E1, rfl, hp, hf1, hd1⟩
      | exit i => exact absurd he (hne _ _ _)
      | ret => exact ⟨E1, rfl, hp, hf1, hd1⟩
  | loop p ihp =>
    intro E fr h x fr' h' a w he hf s hfree
    simp only [evC] at he
    refine wp_loop_ghost (fun j a1 w1 => ∃ E1 fr1 h1, loopA (evC c call n k p) j fr1 h1 = some (x, fr', h') ∧ Post c.G B E E1 h h1 w w1 ∧ FR E1 n fr1 a1.tmps ∧ a1.defers = a.defers) k ⟨E, fr, h, he, Post.refl s, hf, rfl⟩ ?_
    rintro j a1 w1 ⟨E1, fr1, h1, h2, hp, hf1, hd1⟩
    cases j with
    | zero => simp [loopA] at h2
    | succ j =>
      simp only [loopA] at h2
      split at h2
      · rename_i fr2 h3 h4
        have hle := loopA_len (evC_len hcl k p) j _ _ _ _ _ h2
        have hfree1 : Free E1 h1 h' := hfree.right hp
        refine wp_mono (ihp h4 hf1 hp.sim (hfree1.left hle)) ?_
        rintro e a2 w2 ⟨E2, rfl, hp2, hf2, hd2⟩
        exact ⟨j, Nat.lt_succ_self j, E2, fr2, h3, h2, hp.trans hp2, hf2, hd2.trans hd1⟩
      · rename_i hne
        refine wp_mono (ihp h2 hf1 hp.sim (hfree.right hp)) ?_
        rintro e a2 w2 ⟨E2, rfl, hp2, hf2, hd2⟩
        cases x with
        | normal => exact absurd h2 (hne _ _)
        | exit i => exact ⟨E2, rfl, hp.trans hp2, hf2, hd2.trans hd1⟩
        | ret => exact ⟨E2, rfl, hp.trans hp2, hf2, hd2.trans hd1⟩
  | rangeFunc f ps a b _ _ => intro E fr h x fr' h' a w he; simp [evC] at he
  | scope a _ => intro E fr h x fr' h' a w he; simp [evC] at he
  | label l => intro E fr h x fr' h' a w he; simp [evC] at he
  | goto l => intro E fr h x fr' h' a w he; simp [evC] at he
  | refuse y => intro E fr h x fr' h' a w he; simp [evC] at he
theorem res_sim {E : Env} {fr : AFrame} {h : AHeap} {tmps : Array Value} {w : World} (hf : FR E n fr tmps) (s : Sim c.G B E h w) (f : ResultVar → Sem Value) (ft : ∀ t, f (.tmp t) = pure (tmps.getD t undef)) (fc : ∀ a t, f (.cell a t) = do loadVar t (← asAddr (tmps.getD a undef))) : ∀ (l : List ResultVar) (vs : List Value), resA c.P fr h l = some vs →
    ∃ vs', (l.mapM f).run c.P w = .ok vs' w ∧ LR E vs vs'
  | [], vs, he => by simp only [resA, Option.some.injEq] at he; subst he; exact ⟨[], by simp, LR.nil E⟩
  | .tmp t :: l, vs, he => by
    simp only [resA] at he
    split at he
    · rename_i us hu
      cases he
      obtain ⟨us', h1, h2⟩ := res_sim hf s f ft fc l us hu
      exact ⟨tmps.getD t undef :: us', by simp only [List.mapM_cons, Sem.run_bind, ft, Sem.run_pure, Result.andThen_ok, h1], LR.cons (hf.2 t) h2⟩
    · cases he
  | .cell a t :: l, vs, he => by
    simp only [resA] at he
    split at he
    · rename_i v us hv hu
      cases he
      obtain ⟨us', h1, h2⟩ := res_sim hf s f ft fc l us hu
      obtain ⟨v', h3, h4⟩ := load_sim (P := c.P) s (hf.2 a) hv
      refine ⟨v' :: us', ?_, LR.cons h4 h2⟩
      have h5 : (do loadVar t (← asAddr (tmps.getD a undef)) : Sem Value).run c.P w = .ok v' w := by
        have hx := hf.2 a
        unfold loadA at hv
        split at hv
        · rename_i b o hfa
          rw [hfa] at hx
          generalize tmps.getD a undef = z at hx h3 ⊢
          cases hx
          exact h3
        · cases hv
      rw [← fc] at h5
      simp only [List.mapM_cons, Sem.run_bind, h5, Result.andThen_ok, h1, Sem.run_pure]
    · cases he
theorem results_sim {E : Env} {fr : AFrame} {h : AHeap} {tmps : Array Value} {w : World} (fn : Func) (hf : FR E n fr tmps) (s : Sim c.G B E h w) {vs : List Value} (he : resA c.P fr h fn.results.toList = some vs) :
    ∃ v', (results fn tmps).run c.P w = .ok v' w ∧ VR E (oneA vs) v' := by
  have key : ∃ vs', (results fn tmps).run c.P w = .ok (if h : vs'.toArray.size = 1 then vs'.toArray[0] else .tuple vs'.toArray) w ∧ LR E vs vs' := by
    unfold results
    rw [Array.mapM_eq_mapM_toList]
    obtain ⟨vs', h1, h2⟩ := res_sim hf s (fun | .tmp t => pure (tmps.getD t undef) | .cell a t => do loadVar t (← asAddr (tmps.getD a undef))) (fun _ => rfl) (fun _ _ => rfl) _ _ he
    refine ⟨vs', ?_, h2⟩
    simp only [Sem.run_bind, Sem.run_map]
    erw [h1]
    rfl
  obtain ⟨vs', h3, h2⟩ := key
  refine ⟨_, h3, ?_⟩
  unfold oneA
  split
  · rename_i v
    obtain ⟨v', zs, rfl, h4, h5⟩ := h2.cases
    have : zs = [] := by have := h5.1; cases zs with | nil => rfl | cons _ _ => simp at this
    subst this
    simpa using h4
  · rename_i hne
    have : ¬ vs'.toArray.size = 1 := by
      intro hh
      have hl := h2.1
      simp only [List.size_toArray] at hh
      match vs, hl with
      | [v], _ => exact hne v rfl
      | [], hl => simp at hl; omega
      | _ :: _ :: _, hl => simp at hl; omega
    rw [dif_neg this]
    exact VR.tuple' h2
end
/-- What is asked of a function that has a contract of its own. -/
def PrimOK (c : Ctx) (B : Nat) : Prop := ∀ f p, c.prim f = some p → CallLen (fun _ => p) ∧ ∀ args h v h', p args h = some (v, h') → ∀ E w args', Sim c.G B E h w → LR E args args' → Free E h h' →
  CallOK c.P f args'.toArray w fun e w' => ∃ E' v', e = .returned v' ∧ Post c.G B E E' h h' w w' ∧ VR E' v v'
theorem evF_len (c : Ctx) (B : Nat) (hp : PrimOK c B) : ∀ k, CallLen (evF c k)
  | 0 => fun f args h v h' he => by simp [evF] at he
  | k + 1 => fun f args h v h' he => by
    simp only [evF] at he
    split at he
    · rename_i p hpr; exact (hp f p hpr).1 f args h v h' he
    · split at he
      · unfold evBody at he
        split at he
        · split at he
          · cases he
          · split at he
            · cases he
            · rename_i x fr h1 hne hc
              simp only [Option.map_eq_some_iff] at he
              obtain ⟨vs, _, hh⟩ := he
              cases hh
              exact evC_len (evF_len c B hp k) k _ _ _ _ _ _ hc
            · cases he
        · cases he
      · cases he
theorem fun_sim (c : Ctx) (B : Nat) (hm : c.P.follows .mixedOrders = true) (hp : PrimOK c B) : ∀ k, CallSim c B (evF c k)
  | 0 => fun f args h v h' he => by simp [evF] at he
  | k + 1 => fun f args h v h' he E w args' s hargs hfree => by
    simp only [evF] at he
    split at he
    · rename_i p hpr; exact (hp f p hpr).2 args h v h' he E w args' s hargs hfree
    · split at he
      · rename_i fn hfn
        unfold evBody at he
        split at he
        · rename_i cd hbody
          split at he
          · cases he
          · rename_i hname
            split at he
            · cases he
            · rename_i x fr h1 hne hc
              simp only [Option.map_eq_some_iff] at he
              obtain ⟨vs, hres, hh⟩ := he
              cases hh
              refine .inl ⟨?_, ?_⟩
              · simp only [callFunc, Sem.run_bind, run_program, Result.andThen_ok, hfn]
                rw [if_neg hname]
                simp [hbody]
              · refine calls_of_wp hfn hbody ?_
                have hf0 : FR E fn.ntmps args (args'.toArray ++ Array.replicate (fn.ntmps - args'.toArray.size) undef) := by
                  refine ⟨by simp; omega, fun t => ?_⟩
                  have hget : ∀ (l : List Value) (t : Nat), fget l t = (l[t]?).getD undef := by
                    intro l
                    induction l with
                    | nil => intro t; cases t <;> rfl
                    | cons x l ih => intro t; cases t with | zero => rfl | succ t => simpa [fget] using ih t
                  rw [hget, Array.getD_eq_getD_getElem?]
                  by_cases ht : t < args.length
                  · obtain ⟨v', h2, h3⟩ := hargs.2 t _ (List.getElem?_eq_getElem ht)
                    rw [List.getElem?_eq_getElem ht]
                    have ht' : t < args'.length := by rw [← hargs.1]; exact ht
                    rw [Array.getElem?_append_left (by simpa using ht')]
                    simp only [List.getElem?_toArray, h2, Option.getD_some]
                    exact h3
                  · rw [List.getElem?_eq_none (by omega)]
                    have ht' : args'.length ≤ t := by rw [← hargs.1]; omega
                    rw [Array.getElem?_append_right (by simpa using ht')]
                    have : (((Array.replicate (fn.ntmps - args'.toArray.size) undef)[t - args'.toArray.size]?).getD undef) = undef := by
                      rw [Array.getElem?_replicate]
                      split <;> rfl
                    rw [this]
                    exact VR.undef E
                have hw := code_sim (n := fn.ntmps) hm (evF_len c B hp k) (fun_sim c B hm hp k) k cd hc (a := { tmps := args'.toArray ++ Array.replicate (fn.ntmps - args'.toArray.size) undef, defers := [] }) hf0 s hfree
                refine wp_mono hw ?_
                rintro e a1 w1 ⟨E1, rfl, hp1, hf1, hd1⟩
                obtain ⟨v', h2, h3⟩ := results_sim fn hf1 hp1.sim hres
                cases x with
                | exit i => exact absurd rfl (hne i)
                | normal => exact ⟨hd1, v', h2, E1, v', rfl, hp1, h3⟩
                | ret => exact ⟨hd1, v', h2, E1, v', rfl, hp1, h3⟩
            · cases he
        · cases he
      · cases he
end Go.Abs
/- Abs21: the evaluator without a bound on rounds and on the depth of calls. Conditions: none. -/
namespace Go.Abs
def CallLe (call call' : CallF) : Prop := ∀ f args h r, call f args h = some r → call' f args h = some r
section
variable {c : Ctx} {n : Nat}
/-- An operation asks at most one call. -/
theorem evOp_uses {call : CallF} {fr : AFrame} {op : Op} {h : AHeap} {r : Value × AHeap} (he : evOp c call fr op h = some r) :
    (∀ call', evOp c call' fr op h = some r) ∨ ∃ f args, call f args h = some r ∧ ∀ call', call' f args h = some r → evOp c call' fr op h = some r := by
  by_cases hp : pureOp op = true
  · left; intro call'; unfold evOp at he ⊢; rw [if_pos hp] at he ⊢; exact he
  · cases op
    case call cl =>
      obtain ⟨callee, args, argTypes⟩ := cl
      cases callee with
      | value f =>
        unfold evOp at he
        simp only [hp] at he
        right
        simp only [Bool.false_eq_true, if_false] at he
        cases h1 : evA c fr f with
        | none => simp [h1] at he
        | some v =>
          cases h2 : evL c fr args.toList with
          | none => simp [h1, h2] at he
          | some vs =>
            cases v with
            | func fn first captured =>
              cases fn with
              | func g =>
                simp only [h1, h2] at he
                refine ⟨g, _, he, fun call' hc => ?_⟩
                unfold evOp
                simp only [hp, Bool.false_eq_true, if_false, h1, h2]
                exact hc
              | _ => simp [h1, h2] at he
            | _ => simp [h1, h2] at he
      | invoke r m => unfold evOp at he; simp [hp] at he
      | builtin b =>
        left; intro call'
        unfold evOp at he ⊢
        cases b <;> exact he
    case slice t x lo hi mx => left; intro call'; unfold evOp at he ⊢; cases mx <;> exact he
    case next x b => left; intro call'; unfold evOp at he ⊢; cases b <;> exact he
    all_goals (left; intro call'; unfold evOp at he ⊢; exact he)
theorem evOp_le {call call' : CallF} (hle : CallLe call call') {fr : AFrame} {op : Op} {h : AHeap} {r : Value × AHeap} (he : evOp c call fr op h = some r) : evOp c call' fr op h = some r := by
  rcases evOp_uses he with h1 | ⟨f, args, h1, h2⟩
  · exact h1 call'
  · exact h2 call' (hle _ _ _ _ h1)
theorem evOps_le {call call' : CallF} (hle : CallLe call call') (ops : Array Oper) : ∀ (l : List Oper) (fr : AFrame) (h : AHeap) r, evOps c call n ops l fr h = some r → evOps c call' n ops l fr h = some r
  | [], fr, h, r, he => he
  | o :: l, fr, h, r, he => by
    simp only [evOps] at he ⊢
    split at he
    · rename_i hw
      rw [if_pos hw]
      split at he
      · rename_i hop
        rw [evOp_le hle hop]
        simp only
        split at he
        · rename_i hp; exact evOps_le hle ops l _ _ _ he
        · cases he
      · cases he
    · rename_i hw
      rw [if_neg hw]
      split at he
      · exact evOps_le hle ops l _ _ _ he
      · cases he
theorem evDraw_le {call call' : CallF} (hle : CallLe call call') (ops : Array Oper) (mt : Nat → AFrame → AHeap → AHeap → Bool) : ∀ (l : List Oper) (k : Nat) (fr : AFrame) (h : AHeap) r, evDraw c call n ops mt l k fr h = some r → evDraw c call' n ops mt l k fr h = some r
  | [], k, fr, h, r, he => he
  | o :: l, k, fr, h, r, he => by
    simp only [evDraw] at he ⊢
    split at he
    · rename_i hw
      rw [if_pos hw]
      split at he
      · rename_i hop
        rw [evOp_le hle hop]
        simp only
        split at he
        · rename_i hq
          rw [if_pos hq]
          split at he
          · exact evDraw_le hle ops mt l _ _ _ _ he
          · cases he
        · cases he
      · cases he
    · rename_i hw
      rw [if_neg hw]
      split at he
      · exact evDraw_le hle ops mt l _ _ _ _ he
      · cases he
theorem evRegion_le {call call' : CallF} (hle : CallLe call call') {ops : Array Oper} {draw : Bool} {fr : AFrame} {h : AHeap} {r} (he : evRegion c call n ops draw fr h = some r) : evRegion c call' n ops draw fr h = some r := by
  unfold evRegion at he ⊢
  split at he
  · rename_i hd
    rw [if_pos hd]
    split at he
    · rename_i hc; rw [if_pos hc]; exact evDraw_le hle _ _ _ _ _ _ _ he
    · cases he
  · rename_i hd; rw [if_neg hd]; exact evOps_le hle _ _ _ _ _ he
theorem loopA_le {f g : AFrame → AHeap → CodeR} (hfg : ∀ fr h r, f fr h = some r → g fr h = some r) : ∀ (k k' : Nat) fr h r, k ≤ k' → loopA f k fr h = some r → loopA g k' fr h = some r
  | 0, _, _, _, _, _, he => by simp [loopA] at he
  | k + 1, 0, _, _, _, hk, _ => by omega
  | k + 1, k' + 1, fr, h, r, hk, he => by
    simp only [loopA] at he ⊢
    split at he
    · rename_i fr' h' h1
      rw [hfg _ _ _ h1]
      exact loopA_le hfg k k' _ _ _ (by omega) he
    · rename_i hne
      rw [hfg _ _ _ he]
      obtain ⟨x, fr', h'⟩ := r
      cases x with
      | normal => exact absurd he (hne _ _)
      | exit i => rfl
      | ret => rfl
theorem evC_le {call call' : CallF} (hle : CallLe call call') {k k' : Nat} (hk : k ≤ k') : ∀ (cd : Code) (fr : AFrame) (h : AHeap) r, evC c call n k cd fr h = some r → evC c call' n k' cd fr h = some r := by
  intro cd
  induction cd with
  | skip => intro fr h r he; exact he
  | ret => intro fr h r he; exact he
  | exit id => intro fr h r he; exact he
  | region id ops draw =>
    intro fr h r he
    simp only [evC] at he ⊢
    split at he
    · rename_i hr; rw [evRegion_le hle hr]; exact he
    · cases he
  | seq a b iha ihb =>
    intro fr h r he
    simp only [evC] at he ⊢
    split at he
    · rename_i h1; rw [iha _ _ _ h1]; exact ihb _ _ _ he
    · rename_i hne
      rw [iha _ _ _ he]
      obtain ⟨x, fr', h'⟩ := r
      cases x with
      | normal => exact absurd he (hne _ _)
      | exit i => rfl
      | ret => rfl
  | cond y a b iha ihb =>
    intro fr h r he
    simp only [evC] at he ⊢
    split at he
    · rename_i hy; exact iha _ _ _ he
    · rename_i hy; exact ihb _ _ _ he
    · cases he
  | block id a iha =>
    intro fr h r he
    simp only [evC] at he ⊢
    split at he
    · rename_i h1; rw [iha _ _ _ h1]; exact he
    · rename_i hne
      rw [iha _ _ _ he]
      obtain ⟨x, fr', h'⟩ := r
      cases x with
      | exit i => exact absurd he (hne _ _ _)
      | normal => rfl
      | ret => rfl
  | loop a iha =>
    intro fr h r he
    exact loopA_le iha k k' _ _ _ hk he
  | rangeFunc f ps a b _ _ => intro fr h r he; simp [evC] at he
  | scope a _ => intro fr h r he; simp [evC] at he
  | label l => intro fr h r he; simp [evC] at he
  | goto l => intro fr h r he; simp [evC] at he
  | refuse y => intro fr h r he; simp [evC] at he
theorem evBody_le {call call' : CallF} (hle : CallLe call call') {k k' : Nat} (hk : k ≤ k') {fn : Func} {args : List Value} {h : AHeap} {r} (he : evBody c call k fn args h = some r) : evBody c call' k' fn args h = some r := by
  unfold evBody at he ⊢
  split at he
  · rename_i b hb
    split at he
    · cases he
    · rename_i hn
      rw [if_neg hn]
      split at he
      · cases he
      · rename_i x fr h1 hne hc
        rw [evC_le hle hk _ _ _ _ hc]
        cases x with
        | exit i => exact absurd rfl (hne i)
        | normal => exact he
        | ret => exact he
      · cases he
  · cases he
theorem evF_step (c : Ctx) : ∀ k, CallLe (evF c k) (evF c (k + 1))
  | 0 => fun f args h r he => by simp [evF] at he
  | k + 1 => fun f args h r he => by
    simp only [evF] at he ⊢
    split at he
    · exact he
    · split at he
      · exact evBody_le (evF_step c k) (Nat.le_succ k) he
      · cases he
theorem evF_le (c : Ctx) {k k' : Nat} (h : k ≤ k') : CallLe (evF c k) (evF c k') := by
  obtain ⟨d, rfl⟩ : ∃ d, k' = k + d := ⟨k' - k, by omega⟩
  clear h
  induction d with
  | zero => exact fun _ _ _ _ h => h
  | succ d ih => exact fun f args h r he => evF_step c (k + d) f args h r (ih f args h r he)
end
/-! ### without bounds -/
open Classical in
noncomputable def evU (c : Ctx) : CallF := fun f args h => if hx : ∃ r k, evF c k f args h = some r then some hx.choose else none
theorem evU_of {c : Ctx} {k : Nat} {f : FuncId} {args : List Value} {h : AHeap} {r} (he : evF c k f args h = some r) : evU c f args h = some r := by
  have hx : ∃ r k, evF c k f args h = some r := ⟨r, k, he⟩
  unfold evU
  rw [dif_pos hx]
  obtain ⟨k', hk'⟩ := hx.choose_spec
  have h1 := evF_le c (Nat.le_max_left k k') _ _ _ _ he
  have h2 := evF_le c (Nat.le_max_right k k') _ _ _ _ hk'
  rw [h1] at h2
  exact h2.symm
theorem evU_elim {c : Ctx} {f : FuncId} {args : List Value} {h : AHeap} {r} (he : evU c f args h = some r) : ∃ k, evF c k f args h = some r := by
  unfold evU at he
  split at he
  · rename_i hx
    cases he
    exact hx.choose_spec
  · cases he
open Classical in
noncomputable def loopU (f : AFrame → AHeap → CodeR) (fr : AFrame) (h : AHeap) : CodeR := if hx : ∃ r k, loopA f k fr h = some r then some hx.choose else none
theorem loopU_of {f : AFrame → AHeap → CodeR} {k : Nat} {fr : AFrame} {h : AHeap} {r} (he : loopA f k fr h = some r) : loopU f fr h = some r := by
  have hx : ∃ r k, loopA f k fr h = some r := ⟨r, k, he⟩
  unfold loopU
  rw [dif_pos hx]
  obtain ⟨k', hk'⟩ := hx.choose_spec
  have h1 := loopA_le (fun _ _ _ h => h) k (max k k') _ _ _ (Nat.le_max_left k k') he
  have h2 := loopA_le (fun _ _ _ h => h) k' (max k k') _ _ _ (Nat.le_max_right k k') hk'
  rw [h1] at h2
  exact h2.symm
theorem loopU_elim {f : AFrame → AHeap → CodeR} {fr : AFrame} {h : AHeap} {r} (he : loopU f fr h = some r) : ∃ k, loopA f k fr h = some r := by
  unfold loopU at he
  split at he
  · rename_i hx
    cases he
    exact hx.choose_spec
  · cases he
/-- One round, and the rest. -/
theorem loopU_next {f : AFrame → AHeap → CodeR} {fr fr' : AFrame} {h h' : AHeap} {r} (h1 : f fr h = some (.normal, fr', h')) (h2 : loopU f fr' h' = some r) : loopU f fr h = some r := by
  obtain ⟨k, hk⟩ := loopU_elim h2
  exact loopU_of (k := k + 1) (by simp only [loopA, h1, hk])
/-- The last round. -/
theorem loopU_out {f : AFrame → AHeap → CodeR} {fr fr' : AFrame} {h h' : AHeap} {x : AExit} (h1 : f fr h = some (x, fr', h')) (hx : x ≠ .normal) : loopU f fr h = some (x, fr', h') := by
  refine loopU_of (k := 1) ?_
  simp only [loopA]
  rw [h1]
  cases x with
  | normal => exact absurd rfl hx
  | exit i => rfl
  | ret => rfl
noncomputable def evCU (c : Ctx) (n : Nat) : Code → AFrame → AHeap → CodeR
  | .skip, fr, h => some (.normal, fr, h)
  | .region _ ops draw, fr, h => match evRegion c (evU c) n ops draw fr h with
    | some (fr', h') => some (.normal, fr', h')
    | none => none
  | .seq a b, fr, h => match evCU c n a fr h with
    | some (.normal, fr', h') => evCU c n b fr' h'
    | r => r
  | .cond x a b, fr, h => match evA c fr x with
    | some (.bool true) => evCU c n a fr h
    | some (.bool false) => evCU c n b fr h
    | _ => none
  | .block id a, fr, h => match evCU c n a fr h with
    | some (.exit i, fr', h') => if i = id then some (.normal, fr', h') else some (.exit i, fr', h')
    | r => r
  | .loop a, fr, h => loopU (evCU c n a) fr h
  | .exit id, fr, h => some (.exit id, fr, h)
  | .ret, fr, h => some (.ret, fr, h)
  | _, _, _ => none
section
variable {c : Ctx} {n : Nat}
theorem evOps_lim (ops : Array Oper) : ∀ (l : List Oper) (fr : AFrame) (h : AHeap) r, evOps c (evU c) n ops l fr h = some r → ∃ K, ∀ k, K ≤ k → evOps c (evF c k) n ops l fr h = some r := by
  intro l
  induction l with
  | nil => intro fr h r he; exact ⟨0, fun _ _ => he⟩
  | cons o l ih =>
    intro fr h r he
    simp only [evOps] at he ⊢
    split at he
    · rename_i hw
      simp only [hw, if_true]
      split at he
      · rename_i v h1 hop
        split at he
        · rename_i fr1 hp
          obtain ⟨K, hK⟩ := ih _ _ _ he
          obtain ⟨K2, hK2⟩ : ∃ K2, ∀ k, K2 ≤ k → evOp c (evF c k) fr o.op h = some (v, h1) := by
            rcases evOp_uses hop with g | ⟨f, args, g1, g2⟩
            · exact ⟨0, fun k _ => g _⟩
            · obtain ⟨k0, hk0⟩ := evU_elim g1
              exact ⟨k0, fun k hk => g2 _ (evF_le c hk _ _ _ _ hk0)⟩
          refine ⟨max K K2, fun k hk => ?_⟩
          rw [hK2 k (by omega)]
          simp only [hp]
          exact hK k (by omega)
        · cases he
      · cases he
    · rename_i hw
      simp only [hw, Bool.false_eq_true, if_false]
      split at he
      · rename_i fr1 hp
        obtain ⟨K, hK⟩ := ih _ _ _ he
        exact ⟨K, fun k hk => by exact hK k hk⟩
      · cases he
theorem evDraw_lim (ops : Array Oper) (mt : Nat → AFrame → AHeap → AHeap → Bool) : ∀ (l : List Oper) (i : Nat) (fr : AFrame) (h : AHeap) r, evDraw c (evU c) n ops mt l i fr h = some r → ∃ K, ∀ k, K ≤ k → evDraw c (evF c k) n ops mt l i fr h = some r := by
  intro l
  induction l with
  | nil => intro i fr h r he; exact ⟨0, fun _ _ => he⟩
  | cons o l ih =>
    intro i fr h r he
    simp only [evDraw] at he ⊢
    split at he
    · rename_i hw
      simp only [hw, if_true]
      split at he
      · rename_i v h1 hop
        split at he
        · rename_i hq
          split at he
          · rename_i fr1 hp
            obtain ⟨K, hK⟩ := ih _ _ _ _ he
            obtain ⟨K2, hK2⟩ : ∃ K2, ∀ k, K2 ≤ k → evOp c (evF c k) fr o.op h = some (v, h1) := by
              rcases evOp_uses hop with g | ⟨f, args, g1, g2⟩
              · exact ⟨0, fun k _ => g _⟩
              · obtain ⟨k0, hk0⟩ := evU_elim g1
                exact ⟨k0, fun k hk => g2 _ (evF_le c hk _ _ _ _ hk0)⟩
            refine ⟨max K K2, fun k hk => ?_⟩
            rw [hK2 k (by omega)]
            simp only [hq, if_true, hp]
            exact hK k (by omega)
          · cases he
        · cases he
      · cases he
    · rename_i hw
      simp only [hw, Bool.false_eq_true, if_false]
      split at he
      · rename_i fr1 hp
        obtain ⟨K, hK⟩ := ih _ _ _ _ he
        exact ⟨K, fun k hk => by exact hK k hk⟩
      · cases he
theorem loop_lim {g : AFrame → AHeap → CodeR} {f : Nat → AFrame → AHeap → CodeR} (hm : ∀ k k' fr h r, k ≤ k' → f k fr h = some r → f k' fr h = some r) (hl : ∀ fr h r, g fr h = some r → ∃ K, ∀ k, K ≤ k → f k fr h = some r) :
    ∀ j fr h r, loopA g j fr h = some r → ∃ K, ∀ k, K ≤ k → loopA (f k) k fr h = some r
  | 0, _, _, _, he => by simp [loopA] at he
  | j + 1, fr, h, r, he => by
    simp only [loopA] at he
    split at he
    · rename_i fr' h' h1
      obtain ⟨K, hK⟩ := loop_lim hm hl j _ _ _ he
      obtain ⟨K2, hK2⟩ := hl _ _ _ h1
      refine ⟨max K K2 + 1, fun k hk => ?_⟩
      obtain ⟨k, rfl⟩ : ∃ q, k = q + 1 := ⟨k - 1, by omega⟩
      simp only [loopA]
      rw [hK2 (k + 1) (by omega)]
      simp only
      exact loopA_le (fun a b r hr => hm k (k + 1) a b r (Nat.le_succ k) hr) k k _ _ _ (Nat.le_refl k) (hK k (by omega))
    · rename_i hne
      obtain ⟨K2, hK2⟩ := hl _ _ _ he
      refine ⟨K2 + 1, fun k hk => ?_⟩
      obtain ⟨k, rfl⟩ : ∃ q, k = q + 1 := ⟨k - 1, by omega⟩
      simp only [loopA]
      rw [hK2 (k + 1) (by omega)]
      obtain ⟨x, fr', h'⟩ := r
      cases x with
      | normal => exact absurd he (hne _ _)
      | exit i => rfl
      | ret => rfl
theorem evC_lim : ∀ (cd : Code) (fr : AFrame) (h : AHeap) r, evCU c n cd fr h = some r → ∃ K, ∀ k, K ≤ k → evC c (evF c k) n k cd fr h = some r := by
  intro cd
  induction cd with
  | skip => intro fr h r he; exact ⟨0, fun _ _ => he⟩
  | ret => intro fr h r he; exact ⟨0, fun _ _ => he⟩
  | exit id => intro fr h r he; exact ⟨0, fun _ _ => he⟩
  | region id ops draw =>
    intro fr h r he
    simp only [evCU] at he
    split at he
    · rename_i fr' h' hr
      have : ∃ K, ∀ k, K ≤ k → evRegion c (evF c k) n ops draw fr h = some (fr', h') := by
        unfold evRegion at hr ⊢
        split at hr
        · rename_i hd
          split at hr
          · rename_i hc
            obtain ⟨K, hK⟩ := evDraw_lim _ _ _ _ _ _ _ hr
            exact ⟨K, fun k hk => by rw [if_pos hd, if_pos hc]; exact hK k hk⟩
          · cases hr
        · rename_i hd
          obtain ⟨K, hK⟩ := evOps_lim _ _ _ _ _ hr
          exact ⟨K, fun k hk => by rw [if_neg hd]; exact hK k hk⟩
      obtain ⟨K, hK⟩ := this
      exact ⟨K, fun k hk => by simp only [evC, hK k hk]; exact he⟩
    · cases he
  | seq a b iha ihb =>
    intro fr h r he
    simp only [evCU] at he
    split at he
    · rename_i h1
      obtain ⟨K, hK⟩ := iha _ _ _ h1
      obtain ⟨K2, hK2⟩ := ihb _ _ _ he
      exact ⟨max K K2, fun k hk => by simp only [evC, hK k (by omega)]; exact hK2 k (by omega)⟩
    · rename_i hne
      obtain ⟨K, hK⟩ := iha _ _ _ he
      refine ⟨K, fun k hk => ?_⟩
      simp only [evC, hK k hk]
      obtain ⟨x, fr', h'⟩ := r
      cases x with
      | normal => exact absurd he (hne _ _)
      | exit i => rfl
      | ret => rfl
  | cond y a b iha ihb =>
    intro fr h r he
    simp only [evCU] at he
    split at he
    · rename_i hy
      obtain ⟨K, hK⟩ := iha _ _ _ he
      exact ⟨K, fun k hk => by simp only [evC, hy]; exact hK k hk⟩
    · rename_i hy
      obtain ⟨K, hK⟩ := ihb _ _ _ he
      exact ⟨K, fun k hk => by simp only [evC, hy]; exact hK k hk⟩
    · cases he
  | block id a iha =>
    intro fr h r he
    simp only [evCU] at he
    split at he
    · rename_i h1
      obtain ⟨K, hK⟩ := iha _ _ _ h1
      exact ⟨K, fun k hk => by simp only [evC, hK k hk]; exact he⟩
    · rename_i hne
      obtain ⟨K, hK⟩ := iha _ _ _ he
      refine ⟨K, fun k hk => ?_⟩
      simp only [evC, hK k hk]
      obtain ⟨x, fr', h'⟩ := r
      cases x with
      | exit i => exact absurd he (hne _ _ _)
      | normal => rfl
      | ret => rfl
  | loop a iha =>
    intro fr h r he
    simp only [evCU] at he
    obtain ⟨j, hj⟩ := loopU_elim he
    obtain ⟨K, hK⟩ := loop_lim (f := fun k => evC c (evF c k) n k a) (fun k k' fr h r hk hr => evC_le (evF_le c hk) hk a fr h r hr) iha j _ _ _ hj
    exact ⟨K, fun k hk => by simp only [evC]; exact hK k hk⟩
  | rangeFunc f ps a b _ _ => intro fr h r he; simp [evCU] at he
  | scope a _ => intro fr h r he; simp [evCU] at he
  | label l => intro fr h r he; simp [evCU] at he
  | goto l => intro fr h r he; simp [evCU] at he
  | refuse y => intro fr h r he; simp [evCU] at he
/-- A call: by its function's text. -/
theorem evU_fun {f : FuncId} {fn : Func} {cd : Code} {args : List Value} {h : AHeap} {x : AExit} {fr' : AFrame} {h' : AHeap} {vs : List Value} (hp : c.prim f = none) (hf : c.P.funcs[f]? = some fn) (hb : fn.body = some cd) (hn : (fn.name == "runtime.NumGoroutine") = false)
    (hc : evCU c fn.ntmps cd args h = some (x, fr', h')) (hx : ∀ i, x ≠ .exit i) (hr : resA c.P fr' h' fn.results.toList = some vs) : evU c f args h = some (oneA vs, h') := by
  obtain ⟨K, hK⟩ := evC_lim _ _ _ _ hc
  refine evU_of (k := K + 1) ?_
  simp only [evF, hp, hf, evBody, hb, hn, Bool.false_eq_true, if_false, hK K (Nat.le_refl K)]
  cases x with
  | exit i => exact absurd rfl (hx i)
  | normal => simp only [hr, Option.map_some]
  | ret => simp only [hr, Option.map_some]
theorem evU_prim {f : FuncId} {p : List Value → AHeap → Option (Value × AHeap)} {args : List Value} {h : AHeap} {r} (hp : c.prim f = some p) (he : p args h = some r) : evU c f args h = some r :=
  evU_of (k := 1) (by simp only [evF, hp]; exact he)
end
/-- A law's call. -/
theorem law_sim (c : Ctx) (B : Nat) (hm : c.P.follows .mixedOrders = true) (hp : PrimOK c B) {f : FuncId} (hpf : c.prim f = none) {args args' : List Value} {h h' : AHeap} {v : Value} (he : evU c f args h = some (v, h')) {E : Env} {w : World}
    (s : Sim c.G B E h w) (hargs : LR E args args') (hfree : Free E h h') : Calls c.P f args'.toArray w fun e w' => ∃ E' v', e = .returned v' ∧ Post c.G B E E' h h' w w' ∧ VR E' v v' := by
  obtain ⟨k, hk⟩ := evU_elim he
  rcases fun_sim c B hm hp k f args h v h' hk E w args' s hargs hfree with ⟨_, h1⟩ | ⟨v', w', h1, _⟩
  · exact h1
  · exfalso
    cases k with
    | zero => simp [evF] at hk
    | succ k =>
      simp only [evF, hpf] at hk
      split at hk
      · rename_i fn hfn
        unfold evBody at hk
        split at hk
        · rename_i cd hbody
          split at hk
          · cases hk
          · rename_i hname
            simp only [callFunc, Sem.run_bind, run_program, Result.andThen_ok, hfn] at h1
            rw [if_neg hname] at h1
            simp [hbody] at h1
        · cases hk
      · cases hk
end Go.Abs
/- Abs22: rules to reason about the evaluator: weakest preconditions of operations, regions, code and calls. Conditions: none. -/
namespace Go.Abs
/-- A mark: simp does not go into what a later argument's type speaks of. -/
@[reducible] def TokT {α : Sort _} (_ : α) : Type := Unit
/-- A call of f comes to a value and a heap of which Q holds. -/
def FW (c : Ctx) (f : FuncId) (args : List Value) (h : AHeap) (Q : Value → AHeap → Prop) (_ : TokT Q := ()) : Prop := ∃ v h', evU c f args h = some (v, h') ∧ Q v h'
theorem FW.mono {c : Ctx} {f : FuncId} {args : List Value} {h : AHeap} {Q Q' : Value → AHeap → Prop} (hq : FW c f args h Q) (h1 : ∀ v h', Q v h' → Q' v h') : FW c f args h Q' :=
  let ⟨v, h', he, hp⟩ := hq
  ⟨v, h', he, h1 v h' hp⟩
def someP {α : Type} (x : Option α) (K : α → Prop) (_ : TokT K := ()) : Prop := ∃ v, x = some v ∧ K v
theorem someP_some {α : Type} (v : α) (K : α → Prop) : someP (some v) K ↔ K v := ⟨fun ⟨_, h, hk⟩ => by cases h; exact hk, fun h => ⟨v, rfl, h⟩⟩
theorem someP_none {α : Type} (K : α → Prop) : someP none K ↔ False := ⟨fun ⟨_, h, _⟩ => (by cases h), False.elim⟩
/-- An operation: what it yields. -/
def OW (c : Ctx) (fr : AFrame) (op : Op) (h : AHeap) (K : Value → AHeap → Prop) : Prop := someP (evOp c (evU c) fr op h) fun r => K r.1 r.2
def PW (n : Nat) (fr : AFrame) (dst : Option Tmp) (v : Value) (K : AFrame → Prop) : Prop :=
  match dst with
  | none => K fr
  | some d => d < n ∧ K (fset fr d v)
theorem PW_iff {n : Nat} {fr : AFrame} {dst : Option Tmp} {v : Value} {K : AFrame → Prop} : PW n fr dst v K ↔ someP (putA n fr dst v) K := by
  unfold PW putA
  cases dst with
  | none => simp [someP_some]
  | some d =>
    simp only
    split
    · rename_i h; simp [someP_some, h]
    · rename_i h; simp [someP_none, h]
def RW (c : Ctx) (n : Nat) (ops : Array Oper) (Q : AFrame → AHeap → Prop) : List Oper → AFrame → AHeap → Prop
  | [], fr, h => Q fr h
  | o :: l, fr, h => if wantA ops fr o = true then OW c fr o.op h fun v h' => PW n fr o.dst v fun fr' => RW c n ops Q l fr' h' else PW n fr o.dst undef fun fr' => RW c n ops Q l fr' h
def RWD (c : Ctx) (n : Nat) (ops : Array Oper) (mt : Nat → AFrame → AHeap → AHeap → Bool) (Q : AFrame → AHeap → Prop) : List Oper → Nat → AFrame → AHeap → Prop
  | [], _, fr, h => Q fr h
  | o :: l, k, fr, h => if wantA ops fr o = true then OW c fr o.op h fun v h' => (pureOp o.op = true ∨ extOp o.op = true ∨ mt k fr h h' = true ∨ h'.take h.length = h) ∧ PW n fr o.dst v fun fr' => RWD c n ops mt Q l (k + 1) fr' h'
    else PW n fr o.dst undef fun fr' => RWD c n ops mt Q l (k + 1) fr' h
theorem RW_sound {c : Ctx} {n : Nat} {ops : Array Oper} {Q : AFrame → AHeap → Prop} : ∀ (l : List Oper) (fr : AFrame) (h : AHeap), RW c n ops Q l fr h → ∃ fr' h', evOps c (evU c) n ops l fr h = some (fr', h') ∧ Q fr' h'
  | [], fr, h, hq => ⟨fr, h, rfl, hq⟩
  | o :: l, fr, h, hq => by
    simp only [RW] at hq
    simp only [evOps]
    split at hq
    · rename_i hw
      obtain ⟨⟨v, h1⟩, hop, hp⟩ := hq
      obtain ⟨fr1, hp1, hp2⟩ := PW_iff.1 hp
      obtain ⟨fr', h', he, hQ⟩ := RW_sound l fr1 h1 hp2
      exact ⟨fr', h', by rw [if_pos hw, hop]; simp only [hp1]; exact he, hQ⟩
    · rename_i hw
      obtain ⟨fr1, hp1, hp2⟩ := PW_iff.1 hq
      obtain ⟨fr', h', he, hQ⟩ := RW_sound l fr1 h hp2
      exact ⟨fr', h', by rw [if_neg hw]; simp only [hp1]; exact he, hQ⟩
theorem RWD_sound {c : Ctx} {n : Nat} {ops : Array Oper} {mt : Nat → AFrame → AHeap → AHeap → Bool} {Q : AFrame → AHeap → Prop} : ∀ (l : List Oper) (k : Nat) (fr : AFrame) (h : AHeap), RWD c n ops mt Q l k fr h → ∃ fr' h', evDraw c (evU c) n ops mt l k fr h = some (fr', h') ∧ Q fr' h'
  | [], k, fr, h, hq => ⟨fr, h, rfl, hq⟩
  | o :: l, k, fr, h, hq => by
    simp only [RWD] at hq
    simp only [evDraw]
    split at hq
    · rename_i hw
      obtain ⟨⟨v, h1⟩, hop, hx, hp⟩ := hq
      obtain ⟨fr1, hp1, hp2⟩ := PW_iff.1 hp
      obtain ⟨fr', h', he, hQ⟩ := RWD_sound l (k + 1) fr1 h1 hp2
      refine ⟨fr', h', ?_, hQ⟩
      rw [if_pos hw, hop]
      have hc : (pureOp o.op || extOp o.op || mt k fr h h1 || decide (h1.take h.length = h)) = true := by
        simp only [Bool.or_eq_true, decide_eq_true_eq]
        rcases hx with hx | hx | hx | hx
        · exact .inl (.inl (.inl hx))
        · exact .inl (.inl (.inr hx))
        · exact .inl (.inr hx)
        · exact .inr hx
      simp only [hc, if_true, hp1]
      exact he
    · rename_i hw
      obtain ⟨fr1, hp1, hp2⟩ := PW_iff.1 hq
      obtain ⟨fr', h', he, hQ⟩ := RWD_sound l (k + 1) fr1 h hp2
      exact ⟨fr', h', by rw [if_neg hw]; simp only [hp1]; exact he, hQ⟩
def thenQ (K : AFrame → AHeap → Prop) (Q : AExit → AFrame → AHeap → Prop) : AExit → AFrame → AHeap → Prop
  | .normal, fr, h => K fr h
  | .exit i, fr, h => Q (.exit i) fr h
  | .ret, fr, h => Q .ret fr h
def blockQ (id : Nat) (Q : AExit → AFrame → AHeap → Prop) : AExit → AFrame → AHeap → Prop
  | .normal, fr, h => Q .normal fr h
  | .exit i, fr, h => if i = id then Q .normal fr h else Q (.exit i) fr h
  | .ret, fr, h => Q .ret fr h
def CW (c : Ctx) (fr : AFrame) (x : Operand) (T F : Prop) : Prop :=
  match evA c fr x with
  | some (.bool b) => if b = true then T else F
  | _ => False
def LW (c : Ctx) (n : Nat) (a : Code) (Q : AExit → AFrame → AHeap → Prop) (fr : AFrame) (h : AHeap) : Prop := ∃ x fr' h', loopU (evCU c n a) fr h = some (x, fr', h') ∧ Q x fr' h'
def DW (ops : Array Oper) (p : Prop) : Prop := chkA ops = true ∧ p
def AW0 (c : Ctx) (n : Nat) : Code → (AExit → AFrame → AHeap → Prop) → AFrame → AHeap → Prop
  | .skip, Q, fr, h => Q .normal fr h
  | .region _ ops draw, Q, fr, h => if draw = true then DW ops (RWD c n ops (mtF c ops) (Q .normal) ops.toList 0 fr h) else RW c n ops (Q .normal) ops.toList fr h
  | .seq a b, Q, fr, h => AW0 c n a (thenQ (AW0 c n b Q) Q) fr h
  | .cond x a b, Q, fr, h => CW c fr x (AW0 c n a Q fr h) (AW0 c n b Q fr h)
  | .block id a, Q, fr, h => AW0 c n a (blockQ id Q) fr h
  | .loop a, Q, fr, h => LW c n a Q fr h
  | .exit id, Q, fr, h => Q (.exit id) fr h
  | .ret, Q, fr, h => Q .ret fr h
  | _, _, _, _ => False
/-- The weakest precondition of code. -/
def AW (c : Ctx) (n : Nat) (cd : Code) (Q : AExit → AFrame → AHeap → Prop) (fr : AFrame) (h : AHeap) : Prop := AW0 c n cd Q fr h
theorem AW_sound {c : Ctx} {n : Nat} : ∀ (cd : Code) (Q : AExit → AFrame → AHeap → Prop) (fr : AFrame) (h : AHeap), AW c n cd Q fr h → ∃ x fr' h', evCU c n cd fr h = some (x, fr', h') ∧ Q x fr' h' := by
  intro cd
  induction cd with
  | skip => intro Q fr h hq; exact ⟨_, _, _, rfl, hq⟩
  | ret => intro Q fr h hq; exact ⟨_, _, _, rfl, hq⟩
  | exit id => intro Q fr h hq; exact ⟨_, _, _, rfl, hq⟩
  | region id ops draw =>
    intro Q fr h hq
    simp only [AW, AW0] at hq
    split at hq
    · rename_i hd
      obtain ⟨hc, hr⟩ := hq
      obtain ⟨fr', h', he, hQ⟩ := RWD_sound _ _ _ _ hr
      exact ⟨.normal, fr', h', by simp only [evCU, evRegion, if_pos hd, if_pos hc, he], hQ⟩
    · rename_i hd
      obtain ⟨fr', h', he, hQ⟩ := RW_sound _ _ _ hq
      exact ⟨.normal, fr', h', by simp only [evCU, evRegion, if_neg hd, he], hQ⟩
  | seq a b iha ihb =>
    intro Q fr h hq
    obtain ⟨x, fr', h', he, hQ⟩ := iha _ _ _ hq
    cases x with
    | normal =>
      obtain ⟨x2, fr2, h2, he2, hQ2⟩ := ihb _ _ _ hQ
      exact ⟨x2, fr2, h2, by simp only [evCU, he]; exact he2, hQ2⟩
    | exit i => exact ⟨_, _, _, by simp only [evCU, he], hQ⟩
    | ret => exact ⟨_, _, _, by simp only [evCU, he], hQ⟩
  | cond y a b iha ihb =>
    intro Q fr h hq
    simp only [AW, AW0, CW] at hq
    split at hq
    · rename_i t ht
      cases t with
      | true =>
        obtain ⟨x, fr', h', he, hQ⟩ := iha _ _ _ (by simpa [AW] using hq)
        exact ⟨x, fr', h', by simp only [evCU, ht, he], hQ⟩
      | false =>
        obtain ⟨x, fr', h', he, hQ⟩ := ihb _ _ _ (by simpa [AW] using hq)
        exact ⟨x, fr', h', by simp only [evCU, ht, he], hQ⟩
    · exact hq.elim
  | block id a iha =>
    intro Q fr h hq
    obtain ⟨x, fr', h', he, hQ⟩ := iha _ _ _ hq
    cases x with
    | normal => exact ⟨_, _, _, by simp only [evCU, he], hQ⟩
    | exit i =>
      simp only [blockQ] at hQ
      split at hQ
      · rename_i hi; exact ⟨.normal, fr', h', by simp only [evCU, he, if_pos hi], hQ⟩
      · rename_i hi; exact ⟨.exit i, fr', h', by simp only [evCU, he, if_neg hi], hQ⟩
    | ret => exact ⟨_, _, _, by simp only [evCU, he], hQ⟩
  | loop a iha =>
    intro Q fr h hq
    exact hq
  | rangeFunc f ps a b _ _ => intro Q fr h hq; exact absurd hq (by simp [AW, AW0])
  | scope a _ => intro Q fr h hq; exact absurd hq (by simp [AW, AW0])
  | label l => intro Q fr h hq; exact absurd hq (by simp [AW, AW0])
  | goto l => intro Q fr h hq; exact absurd hq (by simp [AW, AW0])
  | refuse y => intro Q fr h hq; exact absurd hq (by simp [AW, AW0])
/-- A loop, by an invariant that bears a number which each round lowers. -/
theorem LW_rule {c : Ctx} {n : Nat} {a : Code} {Q : AExit → AFrame → AHeap → Prop} (I : Nat → AFrame → AHeap → Prop)
    (step : ∀ m fr h, I m fr h → AW c n a (thenQ (fun fr' h' => ∃ m', m' < m ∧ I m' fr' h') Q) fr h) : ∀ (m : Nat) (fr : AFrame) (h : AHeap), I m fr h → LW c n a Q fr h := by
  intro m
  induction m using Nat.strongRecOn with
  | _ m ih =>
    intro fr h hi
    obtain ⟨x, fr', h', he, hQ⟩ := AW_sound _ _ _ _ (step m fr h hi)
    cases x with
    | normal =>
      obtain ⟨m', hlt, hi'⟩ := hQ
      obtain ⟨x2, fr2, h2, he2, hQ2⟩ := ih m' hlt fr' h' hi'
      exact ⟨x2, fr2, h2, loopU_next he he2, hQ2⟩
    | exit i => exact ⟨_, _, _, loopU_out he (by simp), hQ⟩
    | ret => exact ⟨_, _, _, loopU_out he (by simp), hQ⟩
theorem AW_mono {c : Ctx} {n : Nat} : ∀ (cd : Code) (Q Q' : AExit → AFrame → AHeap → Prop) (fr : AFrame) (h : AHeap), (∀ x fr h, Q x fr h → Q' x fr h) → AW c n cd Q fr h → AW c n cd Q' fr h := by
  intro cd
  induction cd with
  | skip => intro Q Q' fr h hq h1; exact hq _ _ _ h1
  | ret => intro Q Q' fr h hq h1; exact hq _ _ _ h1
  | exit id => intro Q Q' fr h hq h1; exact hq _ _ _ h1
  | region id ops draw =>
    intro Q Q' fr h hq h1
    have key : ∀ (l : List Oper) fr h, RW c n ops (Q .normal) l fr h → RW c n ops (Q' .normal) l fr h := by
      intro l
      induction l with
      | nil => intro fr h hr; exact hq _ _ _ hr
      | cons o l ih =>
        intro fr h hr
        simp only [RW] at hr ⊢
        split at hr
        · rename_i hw
          rw [if_pos hw]
          obtain ⟨r, hop, hp⟩ := hr
          obtain ⟨fr1, hp1, hp2⟩ := PW_iff.1 hp
          exact ⟨r, hop, PW_iff.2 ⟨fr1, hp1, ih _ _ hp2⟩⟩
        · rename_i hw
          rw [if_neg hw]
          obtain ⟨fr1, hp1, hp2⟩ := PW_iff.1 hr
          exact PW_iff.2 ⟨fr1, hp1, ih _ _ hp2⟩
    have key2 : ∀ (mt : Nat → AFrame → AHeap → AHeap → Bool) (l : List Oper) k fr h, RWD c n ops mt (Q .normal) l k fr h → RWD c n ops mt (Q' .normal) l k fr h := by
      intro mt l
      induction l with
      | nil => intro k fr h hr; exact hq _ _ _ hr
      | cons o l ih =>
        intro k fr h hr
        simp only [RWD] at hr ⊢
        split at hr
        · rename_i hw
          rw [if_pos hw]
          obtain ⟨r, hop, hx, hp⟩ := hr
          obtain ⟨fr1, hp1, hp2⟩ := PW_iff.1 hp
          exact ⟨r, hop, hx, PW_iff.2 ⟨fr1, hp1, ih _ _ _ hp2⟩⟩
        · rename_i hw
          rw [if_neg hw]
          obtain ⟨fr1, hp1, hp2⟩ := PW_iff.1 hr
          exact PW_iff.2 ⟨fr1, hp1, ih _ _ _ hp2⟩
    simp only [AW, AW0] at h1 ⊢
    split at h1
    · rename_i hd; rw [if_pos hd]; exact ⟨h1.1, key2 _ _ _ _ _ h1.2⟩
    · rename_i hd; rw [if_neg hd]; exact key _ _ _ h1
  | seq a b iha ihb =>
    intro Q Q' fr h hq h1
    refine iha _ _ fr h (fun x fr h hx => ?_) h1
    cases x with
    | normal => exact ihb _ _ _ _ hq hx
    | exit i => exact hq _ _ _ hx
    | ret => exact hq _ _ _ hx
  | cond y a b iha ihb =>
    intro Q Q' fr h hq h1
    simp only [AW, AW0, CW] at h1 ⊢
    split at h1
    · split at h1
      · rename_i ht; rw [if_pos ht]; exact iha _ _ _ _ hq h1
      · rename_i ht; rw [if_neg ht]; exact ihb _ _ _ _ hq h1
    · exact h1.elim
  | block id a iha =>
    intro Q Q' fr h hq h1
    refine iha _ _ fr h (fun x fr h hx => ?_) h1
    cases x with
    | normal => exact hq _ _ _ hx
    | exit i =>
      simp only [blockQ] at hx ⊢
      split at hx
      · rename_i hi; rw [if_pos hi]; exact hq _ _ _ hx
      · rename_i hi; rw [if_neg hi]; exact hq _ _ _ hx
    | ret => exact hq _ _ _ hx
  | loop a iha =>
    intro Q Q' fr h hq h1
    obtain ⟨x, fr', h', he, hQ⟩ := h1
    exact ⟨x, fr', h', he, hq _ _ _ hQ⟩
  | rangeFunc f ps a b _ _ => intro Q Q' fr h hq h1; exact absurd h1 (by simp [AW, AW0])
  | scope a _ => intro Q Q' fr h hq h1; exact absurd h1 (by simp [AW, AW0])
  | label l => intro Q Q' fr h hq h1; exact absurd h1 (by simp [AW, AW0])
  | goto l => intro Q Q' fr h hq h1; exact absurd h1 (by simp [AW, AW0])
  | refuse y => intro Q Q' fr h hq h1; exact absurd h1 (by simp [AW, AW0])
/-- A cut between two pieces of code. -/
theorem AW_cut {c : Ctx} {n : Nat} {a b : Code} {Q : AExit → AFrame → AHeap → Prop} {fr : AFrame} {h : AHeap} (R : AFrame → AHeap → Prop) (h1 : AW c n a (thenQ R Q) fr h) (h2 : ∀ fr h, R fr h → AW c n b Q fr h) : AW c n (.seq a b) Q fr h := by
  refine AW_mono a _ _ fr h (fun x fr h hx => ?_) h1
  cases x with
  | normal => exact h2 _ _ hx
  | exit i => exact hx
  | ret => exact hx
/-- What a function's body has to come to. -/
def retQ (c : Ctx) (rs : List ResultVar) (Q : Value → AHeap → Prop) : AExit → AFrame → AHeap → Prop
  | .normal, fr, h => someP (resA c.P fr h rs) fun vs => Q (oneA vs) h
  | .ret, fr, h => someP (resA c.P fr h rs) fun vs => Q (oneA vs) h
  | .exit _, _, _ => False
theorem FW_fun {c : Ctx} {f : FuncId} {fn : Func} {cd : Code} {args : List Value} {h : AHeap} {Q : Value → AHeap → Prop} (hp : c.prim f = none) (hf : c.P.funcs[f]? = some fn) (hb : fn.body = some cd) (hn : (fn.name == "runtime.NumGoroutine") = false)
    (hw : AW c fn.ntmps cd (retQ c fn.results.toList Q) args h) : FW c f args h Q := by
  obtain ⟨x, fr', h', he, hQ⟩ := AW_sound _ _ _ _ hw
  cases x with
  | exit i => exact hQ.elim
  | normal => obtain ⟨vs, hr, hq⟩ := hQ; exact ⟨_, _, evU_fun hp hf hb hn he (by simp) hr, hq⟩
  | ret => obtain ⟨vs, hr, hq⟩ := hQ; exact ⟨_, _, evU_fun hp hf hb hn he (by simp) hr, hq⟩
/-- The same, its parts taken from the function's text. -/
theorem FW_f {c : Ctx} {f : FuncId} {nm og : String} {ta ps rt : Array TypeId} {nfr n : Nat} {rs : Array ResultVar} {cd : Code} {nr ou : Bool} {fl : String} {el : Nat} {ln : Option Nat} {me : List Departure} {tn : Array String} {args : List Value} {h : AHeap} {Q : Value → AHeap → Prop}
    (hf : c.P.funcs[f]? = some (.mk nm og ta ps rt nfr n rs (some cd) nr ou fl el ln me tn)) (hp : c.prim f = none) (hn : (nm == "runtime.NumGoroutine") = false)
    (hw : AW c n cd (retQ c rs.toList Q) args h) : FW c f args h Q := FW_fun hp hf rfl hn hw
/-! ### the operations, one by one -/
section
variable {c : Ctx} {fr : AFrame} {h : AHeap} {K : Value → AHeap → Prop}
theorem someP_map {α β : Type} {x : Option α} {f : α → β} {K : β → Prop} : someP (x.map f) K ↔ someP x fun a => K (f a) := by
  cases x <;> simp [someP_some, someP_none]
theorem OW_pure {op : Op} (hp : pureOp op = true) : OW c fr op h K ↔ someP (purA c fr op) fun v => K v h := by
  unfold OW evOp
  rw [if_pos hp, someP_map]
theorem OW_load {t : TypeId} {x : Operand} : OW c fr (.load t x) h K ↔ someP (evA c fr x) fun a => someP (loadA c.P h t a) fun v => K v h := by
  unfold OW evOp
  simp only [pureOp, Bool.false_eq_true, if_false]
  cases evA c fr x <;> simp [someP_some, someP_none, someP_map]
theorem OW_store {t : TypeId} {x y : Operand} : OW c fr (.store t x y) h K ↔ someP (evA c fr x) fun a => someP (evA c fr y) fun v => someP (storeA c.P h t a v) fun h' => K undef h' := by
  unfold OW evOp
  simp only [pureOp, Bool.false_eq_true, if_false]
  cases evA c fr x <;> cases evA c fr y <;> simp [someP_some, someP_none, someP_map]
theorem OW_alloc {t : TypeId} : OW c fr (.alloc t) h K ↔ someP (zeroA c.P t) fun z => someP (eszA c.P t) fun n => K (.pointer (some ⟨h.length, 0, none⟩)) (h ++ [some (.cells ⟨z, n, false⟩)]) := by
  unfold OW evOp
  simp only [pureOp, Bool.false_eq_true, if_false]
  cases zeroA c.P t <;> cases eszA c.P t <;> simp [someP_some, someP_none, newA]
theorem OW_box {t : TypeId} {x : Operand} : OW c fr (.box t x) h K ↔ someP (evA c fr x) fun v => someP (eszA c.P t) fun n => K (.pointer (some ⟨h.length, 0, none⟩)) (h ++ [some (.cells ⟨v.cells.toList, n, false⟩)]) := by
  unfold OW evOp
  simp only [pureOp, Bool.false_eq_true, if_false]
  cases evA c fr x <;> cases eszA c.P t <;> simp [someP_some, someP_none, newA]
theorem OW_convert {s d : TypeId} {x : Operand} : OW c fr (.convert s d x) h K ↔ someP (evA c fr x) fun a => someP (convA c.P s d a h) fun r => K r.1 r.2 := by
  unfold OW evOp
  simp only [pureOp, Bool.false_eq_true, if_false]
  cases evA c fr x <;> simp [someP_some, someP_none]
theorem OW_slice {t : TypeId} {x : Operand} {lo hi : Option Operand} : OW c fr (.slice t x lo hi none) h K ↔ someP (evA c fr x) fun a => someP (evL c fr lo.toList) fun l => someP (evL c fr hi.toList) fun r => someP (sliceA c.P t a l[0]? r[0]? h) fun v => K v h := by
  unfold OW evOp
  simp only [pureOp, Bool.false_eq_true, if_false]
  cases evA c fr x <;> cases evL c fr lo.toList <;> cases evL c fr hi.toList <;> simp [someP_some, someP_none, someP_map]
theorem OW_buildSlice {t : TypeId} {len : Nat} {ps : Array (Nat × Operand)} : OW c fr (.buildSlice t len ps) h K ↔ someP (evParts c fr ps.toList) fun p => someP (buildSliceA c.P t len p h) fun r => K r.1 r.2 := by
  unfold OW evOp
  simp only [pureOp, Bool.false_eq_true, if_false]
  cases evParts c fr ps.toList <;> simp [someP_some, someP_none]
theorem OW_makeSlice {t : TypeId} {l m : Operand} : OW c fr (.makeSlice t l m) h K ↔ someP (evA c fr l) fun a => someP (evA c fr m) fun b => someP (makeSliceA c.P t a b h) fun r => K r.1 r.2 := by
  unfold OW evOp
  simp only [pureOp, Bool.false_eq_true, if_false]
  cases evA c fr l <;> cases evA c fr m <;> simp [someP_some, someP_none]
theorem OW_call {f : Operand} {args : Array Operand} {ts : Array TypeId} : OW c fr (.call { callee := .value f, args := args, argTypes := ts }) h K ↔
    someP (evA c fr f) fun g => someP (evL c fr args.toList) fun vs => match g with | .func (.func g) first captured => FW c g (first.toList ++ vs ++ captured.toList) h K | _ => False := by
  unfold OW evOp
  simp only [pureOp, Bool.false_eq_true, if_false]
  cases evA c fr f with
  | none => simp [someP_none]
  | some g =>
    cases evL c fr args.toList with
    | none => simp [someP_some, someP_none]
    | some vs =>
      simp only [someP_some]
      cases g with
      | func fn first captured =>
        cases fn with
        | func g => exact ⟨fun ⟨r, h1, h2⟩ => ⟨r.1, r.2, h1, h2⟩, fun ⟨v, h', h1, h2⟩ => ⟨(v, h'), h1, h2⟩⟩
        | _ => simp [someP_none]
      | _ => simp [someP_none]
theorem OW_append {args : Array Operand} {ts : Array TypeId} : OW c fr (.call { callee := .builtin .append, args := args, argTypes := ts }) h K ↔
    someP (evL c fr args.toList) fun vs => match vs, ts[0]?, ts[1]? with
      | [s, x], some t, some u => (match c.P.underlying u with | some (.int _) => False | some _ => True | none => False) ∧ someP (appendA c.P t s x h) fun r => K r.1 r.2
      | _, _, _ => False := by
  unfold OW evOp
  simp only [pureOp, Bool.false_eq_true, if_false]
  cases evL c fr args.toList with
  | none => simp [someP_none]
  | some vs =>
    simp only [someP_some]
    generalize ts[0]? = t0
    generalize ts[1]? = t1
    match vs, t0, t1 with
    | [s, x], some t, some u =>
      simp only
      cases hu : c.P.underlying u with
      | none => simp [someP_none]
      | some d => cases d <;> simp [someP_none]
    | [], _, _ => simp [someP_none]
    | [_], _, _ => simp [someP_none]
    | _ :: _ :: _ :: _, _, _ => simp [someP_none]
    | [_, _], none, _ => simp [someP_none]
    | [_, _], some _, none => simp [someP_none]
end
end Go.Abs
/- Abs23: the rules as equations, to be used by simp. Conditions: none. -/
namespace Go.Abs
/-- What a guard asks. -/
def GW (v : Value) (want : Bool) (T F : Prop) : Prop :=
  match v with
  | .bool b => if (b == want) = true then T else F
  | _ => F
def CB (v : Value) (T F : Prop) : Prop :=
  match v with
  | .bool b => if b = true then T else F
  | _ => False
section
variable {c : Ctx} {fr : AFrame} {h : AHeap} {n : Nat} {K : Value → AHeap → Prop} {ops : Array Oper} {Q : AFrame → AHeap → Prop} {dst : Option Tmp} {op : Op} {ty : TypeId} {pos : String} {after : Array Edge} {l : List Oper} {mt : Nat → AFrame → AHeap → AHeap → Bool} {k : Nat}
theorem fget_set : ∀ (fr : AFrame) (d i : Nat) (v : Value), fget (fset fr d v) i = if i = d then v else fget fr i
  | [], 0, 0, v => by simp [fset, fget]
  | [], 0, i + 1, v => by simp [fset, fget]
  | [], d + 1, 0, v => by simp [fset, fget]
  | [], d + 1, i + 1, v => by simp [fset, fget, fget_set []]
  | x :: l, 0, 0, v => by simp [fset, fget]
  | x :: l, 0, i + 1, v => by simp [fset, fget]
  | x :: l, d + 1, 0, v => by simp [fset, fget]
  | x :: l, d + 1, i + 1, v => by simp [fset, fget, fget_set l]
theorem fget_same (fr : AFrame) (d : Nat) (v : Value) : fget (fset fr d v) d = v := by rw [fget_set, if_pos rfl]
theorem fget_cons0 (v : Value) (l : AFrame) : fget (v :: l) 0 = v := rfl
theorem fget_consS (v : Value) (l : AFrame) (i : Nat) : fget (v :: l) (i + 1) = fget l i := rfl
theorem RWn : RW c n ops Q [] fr h = Q fr h := rfl
theorem RWc : RW c n ops Q (⟨dst, op, ty, pos, after, none⟩ :: l) fr h = OW c fr op h (fun v h' => PW n fr dst v fun fr' => RW c n ops Q l fr' h') := by simp [RW, wantA]
theorem wantA_some {o : Oper} {j : Nat} {want : Bool} {t : Tmp} (hg : o.guard = some (j, want)) (ht : (ops[j]?).bind (·.dst) = some t) (T F : Prop) : (if wantA ops fr o = true then T else F) = GW (fget fr t) want T F := by
  unfold wantA GW
  simp only [hg, ht]
  split <;> rename_i hv <;> split <;> simp_all
/-- A guarded operation; its guard's place is found by 'ht', by rfl. -/
theorem RWg {j : Nat} {want : Bool} (t : Tmp) (ht : (ops[j]?).bind (·.dst) = some t) : RW c n ops Q (⟨dst, op, ty, pos, after, some (j, want)⟩ :: l) fr h =
    GW (fget fr t) want (OW c fr op h (fun v h' => PW n fr dst v fun fr' => RW c n ops Q l fr' h')) (PW n fr dst undef fun fr' => RW c n ops Q l fr' h) := by
  simp only [RW]
  exact wantA_some rfl ht _ _
/-- The place of a guard, as a list's element. -/
def gdst (ops : List Oper) (j : Nat) : Tmp := ((ops[j]?).bind (·.dst)).getD 0
theorem RWg' {j : Nat} {want : Bool} : RW c n ops Q (⟨dst, op, ty, pos, after, some (j, want)⟩ :: l) fr h =
    match (ops.toList[j]?).bind (·.dst) with
    | some t => someP (some (fget fr t)) fun w => GW w want (OW c fr op h (fun v h' => PW n fr dst v fun fr' => RW c n ops Q l fr' h')) (PW n fr dst undef fun fr' => RW c n ops Q l fr' h)
    | none => PW n fr dst undef fun fr' => RW c n ops Q l fr' h := by
  split
  · rename_i t ht; rw [propext (someP_some _ _)]; exact RWg t (by simpa using ht)
  · rename_i ht
    have hn : wantA ops fr ⟨dst, op, ty, pos, after, some (j, want)⟩ = false := by
      unfold wantA
      simp only [Array.getElem?_toList] at ht
      simp only [ht]
    simp only [RW, hn, Bool.false_eq_true, if_false]
theorem gsome (o : Oper) : (Option.bind (some o) (·.dst)) = o.dst := rfl
theorem RWDn : RWD c n ops mt Q [] k fr h = Q fr h := rfl
/-- Of an operation that is not ordered against all others. -/
def DQ (op : Op) (m : Bool) (h h' : AHeap) (p : Prop) : Prop := (pureOp op = true ∨ extOp op = true ∨ m = true ∨ h'.take h.length = h) ∧ p
theorem RWDc : RWD c n ops mt Q (⟨dst, op, ty, pos, after, none⟩ :: l) k fr h = OW c fr op h (fun v h' => DQ op (mt k fr h h') h h' (PW n fr dst v fun fr' => RWD c n ops mt Q l (k + 1) fr' h')) := by
  simp only [RWD, wantA, if_true]
  rfl
theorem RWDg' {j : Nat} {want : Bool} : RWD c n ops mt Q (⟨dst, op, ty, pos, after, some (j, want)⟩ :: l) k fr h =
    match (ops.toList[j]?).bind (·.dst) with
    | some t => someP (some (fget fr t)) fun w => GW w want (OW c fr op h (fun v h' => DQ op (mt k fr h h') h h' (PW n fr dst v fun fr' => RWD c n ops mt Q l (k + 1) fr' h'))) (PW n fr dst undef fun fr' => RWD c n ops mt Q l (k + 1) fr' h)
    | none => PW n fr dst undef fun fr' => RWD c n ops mt Q l (k + 1) fr' h := by
  split
  · rename_i t ht
    rw [propext (someP_some _ _)]
    simp only [RWD, DQ]
    exact wantA_some rfl (by simpa using ht) _ _
  · rename_i ht
    have hn : wantA ops fr ⟨dst, op, ty, pos, after, some (j, want)⟩ = false := by
      unfold wantA
      simp only [Array.getElem?_toList] at ht
      simp only [ht]
    simp only [RWD, hn, Bool.false_eq_true, if_false]
theorem DQ_pure {h' : AHeap} {m : Bool} {p : Prop} (hp : pureOp op = true) : DQ op m h h' p = p := by simp [DQ, hp]
theorem DQ_ext {h' : AHeap} {m : Bool} {p : Prop} (hp : extOp op = true) : DQ op m h h' p = p := by simp [DQ, hp]
theorem DQ_mut {h' : AHeap} {p : Prop} : DQ op true h h' p = p := by simp [DQ]
theorem DQ_same {m : Bool} {p : Prop} : DQ op m h h p = p := by simp [DQ]
theorem DQ_app {g : AHeap} {m : Bool} {p : Prop} : DQ op m h (h ++ g) p = p := by simp [DQ]
theorem DQ_app2 {g g2 : AHeap} {m : Bool} {p : Prop} : DQ op m h (h ++ g ++ g2) p = p := by simp [DQ]
theorem DQ_move {x : Operand} {h' : AHeap} {m : Bool} {p : Prop} : DQ (.move x) m h h' p = p := DQ_pure rfl
theorem DQ_assign {x : Operand} {h' : AHeap} {m : Bool} {p : Prop} : DQ (.assign x) m h h' p = p := DQ_pure rfl
theorem DQ_pick {x a b : Operand} {h' : AHeap} {m : Bool} {p : Prop} : DQ (.pick x a b) m h h' p = p := DQ_pure rfl
theorem DQ_nilCheck {x : Operand} {h' : AHeap} {m : Bool} {p : Prop} : DQ (.nilCheck x) m h h' p = p := DQ_pure rfl
theorem DQ_bin {bo : BinOp} {t u : TypeId} {x y : Operand} {h' : AHeap} {m : Bool} {p : Prop} : DQ (.binOp bo t x y u) m h h' p = p := DQ_pure rfl
theorem DQ_un {uo : UnOp} {t : TypeId} {x : Operand} {h' : AHeap} {m : Bool} {p : Prop} : DQ (.unOp uo t x) m h h' p = p := DQ_pure rfl
theorem DQ_makeFunc {f : Fn} {a b : Array Operand} {h' : AHeap} {m : Bool} {p : Prop} : DQ (.makeFunc f a b) m h h' p = p := DQ_pure rfl
theorem DQ_makeIface {t : TypeId} {x : Operand} {h' : AHeap} {m : Bool} {p : Prop} : DQ (.makeInterface t x) m h h' p = p := DQ_pure rfl
theorem DQ_fieldAddr {t : TypeId} {x : Operand} {f : Nat} {h' : AHeap} {m : Bool} {p : Prop} : DQ (.fieldAddr t x f) m h h' p = p := DQ_pure rfl
theorem DQ_field {t : TypeId} {x : Operand} {f : Nat} {h' : AHeap} {m : Bool} {p : Prop} : DQ (.field t x f) m h h' p = p := DQ_pure rfl
theorem DQ_indexAddr {t : TypeId} {x i : Operand} {h' : AHeap} {m : Bool} {p : Prop} : DQ (.indexAddr t x i) m h h' p = p := DQ_pure rfl
theorem DQ_index {t : TypeId} {x i : Operand} {h' : AHeap} {m : Bool} {p : Prop} : DQ (.index t x i) m h h' p = p := DQ_pure rfl
theorem DQ_extract {x : Operand} {i : Nat} {h' : AHeap} {m : Bool} {p : Prop} : DQ (.extract x i) m h h' p = p := DQ_pure rfl
theorem DQ_build {t : TypeId} {ps : Array (Nat × Operand)} {h' : AHeap} {m : Bool} {p : Prop} : DQ (.build t ps) m h h' p = p := DQ_pure rfl
theorem DQ_len {args : Array Operand} {ts : Array TypeId} {h' : AHeap} {m : Bool} {p : Prop} : DQ (.call { callee := .builtin .len, args := args, argTypes := ts }) m h h' p = p := DQ_pure rfl
theorem DQ_min {args : Array Operand} {ts : Array TypeId} {h' : AHeap} {m : Bool} {p : Prop} : DQ (.call { callee := .builtin .min, args := args, argTypes := ts }) m h h' p = p := DQ_pure rfl
theorem DQ_max {args : Array Operand} {ts : Array TypeId} {h' : AHeap} {m : Bool} {p : Prop} : DQ (.call { callee := .builtin .max, args := args, argTypes := ts }) m h h' p = p := DQ_pure rfl
theorem DQ_load {t : TypeId} {x : Operand} {h' : AHeap} {m : Bool} {p : Prop} : DQ (.load t x) m h h' p = p := DQ_ext rfl
theorem DQ_convert {s d : TypeId} {x : Operand} {h' : AHeap} {m : Bool} {p : Prop} : DQ (.convert s d x) m h h' p = p := DQ_ext rfl
theorem DQ_slice {t : TypeId} {x : Operand} {lo hi mx : Option Operand} {h' : AHeap} {m : Bool} {p : Prop} : DQ (.slice t x lo hi mx) m h h' p = p := DQ_ext rfl
theorem DQ_alloc {t : TypeId} {h' : AHeap} {m : Bool} {p : Prop} : DQ (.alloc t) m h h' p = p := DQ_ext rfl
theorem DQ_box {t : TypeId} {x : Operand} {h' : AHeap} {m : Bool} {p : Prop} : DQ (.box t x) m h h' p = p := DQ_ext rfl
theorem DQ_buildSlice {t : TypeId} {n : Nat} {ps : Array (Nat × Operand)} {h' : AHeap} {m : Bool} {p : Prop} : DQ (.buildSlice t n ps) m h h' p = p := DQ_ext rfl
theorem DQ_makeSlice {t : TypeId} {x y : Operand} {h' : AHeap} {m : Bool} {p : Prop} : DQ (.makeSlice t x y) m h h' p = p := DQ_ext rfl
theorem DQ_range {t : TypeId} {x : Operand} {h' : AHeap} {m : Bool} {p : Prop} : DQ (.range t x) m h h' p = p := DQ_ext rfl
theorem PWn {v : Value} {K : AFrame → Prop} : PW n fr none v K = K fr := rfl
theorem PWs {d : Tmp} {v : Value} {K : AFrame → Prop} : PW n fr (some d) v K = (d < n ∧ K (fset fr d v)) := rfl
theorem someP_s {α : Type} {v : α} {K : α → Prop} : someP (some v) K = K v := propext (someP_some v K)
theorem someP_n {α : Type} {K : α → Prop} : someP none K = False := propext (someP_none K)
theorem evA_tmp {t : Tmp} : evA c fr (.tmp t) = some (fget fr t) := rfl
theorem evA_int {q : IntKind} {z : Int} : evA c fr (.const (.int q z)) = some (.int q z) := rfl
theorem evA_str {s : ByteArray} : evA c fr (.const (.string s)) = some (.string s) := rfl
theorem evA_bool {b : Bool} : evA c fr (.const (.bool b)) = some (.bool b) := rfl
theorem evA_nilp : evA c fr (.const (.pointer none)) = some (.pointer none) := rfl
theorem evA_nils : evA c fr (.const (.slice none 0 0)) = some (.slice none 0 0) := rfl
theorem evA_nilf : evA c fr (.const .nilFunc) = some .nilFunc := rfl
theorem evA_nili : evA c fr (.const .nilIface) = some .nilIface := rfl
theorem evA_func {f : FuncId} : evA c fr (.func f) = some (.func (.func f) #[] #[]) := rfl
theorem evL_n {K : List Value → Prop} : someP (evL c fr []) K = K [] := someP_s
theorem evL_c {x : Operand} {l : List Operand} {K : List Value → Prop} : someP (evL c fr (x :: l)) K = someP (evA c fr x) fun v => someP (evL c fr l) fun vs => K (v :: vs) := by
  simp only [evL]
  cases evA c fr x <;> cases evL c fr l <;> simp [someP_s, someP_n]
theorem evP_n {K : List (Nat × Value) → Prop} : someP (evParts c fr []) K = K [] := someP_s
theorem evP_c {x : Operand} {i : Nat} {l : List (Nat × Operand)} {K : List (Nat × Value) → Prop} : someP (evParts c fr ((i, x) :: l)) K = someP (evA c fr x) fun v => someP (evParts c fr l) fun vs => K ((i, v) :: vs) := by
  simp only [evParts]
  cases evA c fr x <;> cases evParts c fr l <;> simp [someP_s, someP_n]
theorem CW_eq {x : Operand} {T F : Prop} : CW c fr x T F = someP (evA c fr x) fun v => CB v T F := by
  unfold CW CB
  cases evA c fr x with
  | none => simp [someP_n]
  | some v => simp only [someP_s]; cases v <;> rfl
theorem CB_bool {b : Bool} {T F : Prop} : CB (.bool b) T F = if b = true then T else F := rfl
theorem GW_t {b : Bool} {T F : Prop} : GW (.bool b) true T F = if b = true then T else F := by simp [GW]
theorem GW_f {b : Bool} {T F : Prop} : GW (.bool b) false T F = if b = true then F else T := by cases b <;> simp [GW]
/-! ### pure operations -/
theorem OW_move {x : Operand} : OW c fr (.move x) h K = someP (evA c fr x) fun v => K v h := propext (OW_pure rfl)
theorem OW_assign {x : Operand} : OW c fr (.assign x) h K = someP (evA c fr x) fun v => K v h := propext (OW_pure rfl)
theorem OW_pick {x a b : Operand} : OW c fr (.pick x a b) h K = someP (evA c fr x) fun v => CB v (someP (evA c fr a) fun v => K v h) (someP (evA c fr b) fun v => K v h) := by
  refine propext (Iff.trans (OW_pure rfl) ?_)
  simp only [purA]
  cases evA c fr x with
  | none => simp [someP_n]
  | some v =>
    simp only [someP_s]
    cases v with
    | bool t => cases t <;> simp [CB]
    | _ => simp [CB, someP_n]
theorem OW_nilCheck {x : Operand} : OW c fr (.nilCheck x) h K = someP (evA c fr x) fun v => match v with | .pointer (some a) => K (.pointer (some a)) h | _ => False := by
  refine propext (Iff.trans (OW_pure rfl) ?_)
  simp only [purA]
  cases evA c fr x with
  | none => simp [someP_n]
  | some v =>
    simp only [someP_s]
    cases v with
    | pointer a => cases a <;> simp [someP_s, someP_n]
    | _ => simp [someP_n]
theorem OW_bin {bo : BinOp} {t u : TypeId} {x y : Operand} : OW c fr (.binOp bo t x y u) h K = someP (evA c fr x) fun a => someP (evA c fr y) fun b => someP (binA c.P bo t (isConstA x) (isConstA y) a b) fun v => K v h := by
  refine propext (Iff.trans (OW_pure rfl) ?_)
  simp only [purA]
  cases evA c fr x <;> cases evA c fr y <;> simp [someP_n, someP_s]
theorem OW_un {uo : UnOp} {t : TypeId} {x : Operand} : OW c fr (.unOp uo t x) h K = someP (evA c fr x) fun a => someP (unA uo a) fun v => K v h := by
  refine propext (Iff.trans (OW_pure rfl) ?_)
  simp only [purA]
  cases evA c fr x <;> simp [someP_n, someP_s]
theorem OW_makeFunc {f : Fn} {a b : Array Operand} : OW c fr (.makeFunc f a b) h K = someP (evL c fr a.toList) fun xs => someP (evL c fr b.toList) fun cs => K (.func f xs.toArray cs.toArray) h := by
  refine propext (Iff.trans (OW_pure rfl) ?_)
  simp only [purA]
  cases evL c fr a.toList <;> cases evL c fr b.toList <;> simp [someP_n, someP_s]
theorem OW_fieldAddr {t : TypeId} {x : Operand} {f : Nat} : OW c fr (.fieldAddr t x f) h K = someP (evA c fr x) fun a => someP (fieldA c.P t f) fun p => match a with | .pointer (some ⟨b, o, none⟩) => (sizeA c.P p.2).getD 0 ≠ 0 ∧ K (.pointer (some ⟨b, o + p.1, none⟩)) h | _ => False := by
  refine propext (Iff.trans (OW_pure rfl) ?_)
  simp only [purA]
  cases evA c fr x with
  | none => simp [someP_n]
  | some v =>
    simp only [someP_s]
    cases fieldA c.P t f with
    | none => cases v <;> simp [someP_n]
    | some p =>
      simp only [someP_s]
      obtain ⟨off, u⟩ := p
      cases v with
      | pointer a =>
        cases a with
        | none => simp [someP_n]
        | some a =>
          obtain ⟨b, o, w⟩ := a
          cases w with
          | none => by_cases hz : (sizeA c.P u).getD 0 = 0 <;> simp [hz, someP_n, someP_s]
          | some _ => simp [someP_n]
      | _ => simp [someP_n]
theorem OW_field {t : TypeId} {x : Operand} {f : Nat} : OW c fr (.field t x f) h K = someP (evA c fr x) fun a => someP (fieldA c.P t f) fun p => match a with | .agg cs => someP (partA c.P p.2 cs p.1) fun v => K v h | _ => False := by
  refine propext (Iff.trans (OW_pure rfl) ?_)
  simp only [purA]
  cases evA c fr x with
  | none => simp [someP_n]
  | some v =>
    simp only [someP_s]
    cases fieldA c.P t f with
    | none => cases v <;> simp [someP_n]
    | some p => cases v <;> simp [someP_n, someP_s]
theorem OW_indexAddr {t : TypeId} {x i : Operand} : OW c fr (.indexAddr t x i) h K = someP (evA c fr x) fun a => someP (evA c fr i) fun b => someP (indexAddrA c.P t a b) fun v => K v h := by
  refine propext (Iff.trans (OW_pure rfl) ?_)
  simp only [purA]
  cases evA c fr x <;> cases evA c fr i <;> simp [someP_n, someP_s]
theorem OW_index {t : TypeId} {x i : Operand} : OW c fr (.index t x i) h K = someP (evA c fr x) fun a => someP (evA c fr i) fun b => someP (indexA c.P t a b) fun v => K v h := by
  refine propext (Iff.trans (OW_pure rfl) ?_)
  simp only [purA]
  cases evA c fr x <;> cases evA c fr i <;> simp [someP_n, someP_s]
theorem OW_extract {x : Operand} {i : Nat} : OW c fr (.extract x i) h K = someP (evA c fr x) fun a => match a with | .tuple vs => someP (vs[i]?) fun v => K v h | _ => False := by
  refine propext (Iff.trans (OW_pure rfl) ?_)
  simp only [purA]
  cases evA c fr x with
  | none => simp [someP_n]
  | some v => cases v <;> simp [someP_n, someP_s]
theorem OW_build {t : TypeId} {ps : Array (Nat × Operand)} : OW c fr (.build t ps) h K = someP (evParts c fr ps.toList) fun p => someP (buildA c.P t p) fun v => K v h := by
  refine propext (Iff.trans (OW_pure rfl) ?_)
  simp only [purA]
  cases evParts c fr ps.toList <;> simp [someP_n, someP_s]
theorem OW_len {args : Array Operand} {ts : Array TypeId} : OW c fr (.call { callee := .builtin .len, args := args, argTypes := ts }) h K = someP (evL c fr args.toList) fun vs => match vs, ts[0]? with | [x], some t => someP (lenA c.P t x) fun v => K v h | _, _ => False := by
  refine propext (Iff.trans (OW_pure rfl) ?_)
  simp only [purA]
  cases evL c fr args.toList with
  | none => simp [someP_n]
  | some vs =>
    simp only [someP_s]
    generalize ts[0]? = t0
    match vs, t0 with
    | [], _ => simp [someP_n]
    | [x], some t => simp
    | [x], none => simp [someP_n]
    | _ :: _ :: _, _ => simp [someP_n]
theorem OW_min {args : Array Operand} {ts : Array TypeId} : OW c fr (.call { callee := .builtin .min, args := args, argTypes := ts }) h K = someP (evL c fr args.toList) fun vs => match vs with | x :: l => someP (foldA min2A x l) fun v => K v h | _ => False := by
  refine propext (Iff.trans (OW_pure rfl) ?_)
  simp only [purA]
  cases evL c fr args.toList with
  | none => simp [someP_n]
  | some vs => cases vs <;> simp [someP_n, someP_s]
theorem OW_max {args : Array Operand} {ts : Array TypeId} : OW c fr (.call { callee := .builtin .max, args := args, argTypes := ts }) h K = someP (evL c fr args.toList) fun vs => match vs with | x :: l => someP (foldA max2A x l) fun v => K v h | _ => False := by
  refine propext (Iff.trans (OW_pure rfl) ?_)
  simp only [purA]
  cases evL c fr args.toList with
  | none => simp [someP_n]
  | some vs => cases vs <;> simp [someP_n, someP_s]
/-! ### integers and strings -/
variable {P : Program} {t : TypeId} {cx cy : Bool} {q : IntKind} {a b : Int}
theorem b_add : binA P .add t cx cy (.int q a) (.int q b) = some (.int q (q.wrap (a + b))) := by simp [binA, intBinA]
theorem b_sub : binA P .sub t cx cy (.int q a) (.int q b) = some (.int q (q.wrap (a - b))) := by simp [binA, intBinA]
theorem b_mul : binA P .mul t cx cy (.int q a) (.int q b) = some (.int q (q.wrap (a * b))) := by simp [binA, intBinA]
theorem b_quo : binA P .quo t cx cy (.int q a) (.int q b) = if b = 0 then none else some (.int q (q.wrap (a.tdiv b))) := by simp [binA, intBinA]
theorem b_rem : binA P .rem t cx cy (.int q a) (.int q b) = if b = 0 then none else some (.int q (a.tmod b)) := by simp [binA, intBinA]
theorem b_and : binA P .and t cx cy (.int q a) (.int q b) = some (.int q (q.wrap (BitVec.ofInt q.bits a &&& BitVec.ofInt q.bits b).toNat)) := by simp [binA, intBinA]
theorem b_or : binA P .or t cx cy (.int q a) (.int q b) = some (.int q (q.wrap (BitVec.ofInt q.bits a ||| BitVec.ofInt q.bits b).toNat)) := by simp [binA, intBinA]
theorem b_xor : binA P .xor t cx cy (.int q a) (.int q b) = some (.int q (q.wrap (BitVec.ofInt q.bits a ^^^ BitVec.ofInt q.bits b).toNat)) := by simp [binA, intBinA]
theorem b_eql : binA P .eql t cx cy (.int q a) (.int q b) = some (.bool (decide (a = b))) := by simp [binA, intBinA]
theorem b_neq : binA P .neq t cx cy (.int q a) (.int q b) = some (.bool (decide (a ≠ b))) := by simp [binA, intBinA]
theorem b_lss : binA P .lss t cx cy (.int q a) (.int q b) = some (.bool (decide (a < b))) := by simp [binA, intBinA]
theorem b_leq : binA P .leq t cx cy (.int q a) (.int q b) = some (.bool (decide (a ≤ b))) := by simp [binA, intBinA]
theorem b_gtr : binA P .gtr t cx cy (.int q a) (.int q b) = some (.bool (decide (b < a))) := by simp [binA, intBinA]
theorem b_geq : binA P .geq t cx cy (.int q a) (.int q b) = some (.bool (decide (b ≤ a))) := by simp [binA, intBinA]
theorem b_shl {q' : IntKind} : binA P .shl t cx cy (.int q a) (.int q' b) = if b < 0 then none else some (.int q (q.wrap (a * 2 ^ (min b.toNat q.bits)))) := by simp [binA, shiftA]
theorem b_shr {q' : IntKind} : binA P .shr t cx cy (.int q a) (.int q' b) = if b < 0 then none else some (.int q (a.fdiv (2 ^ (min b.toNat q.bits)))) := by simp [binA, shiftA]
theorem s_add {x y : ByteArray} : binA P .add t cx cy (.string x) (.string y) = if x.size + y.size ≤ 9223372036854775807 then some (.string (x ++ y)) else none := rfl
theorem s_eql {x y : ByteArray} : binA P .eql t cx cy (.string x) (.string y) = some (.bool (decide (x = y))) := rfl
theorem s_neq {x y : ByteArray} : binA P .neq t cx cy (.string x) (.string y) = some (.bool (decide (x ≠ y))) := by simp [binA, strBinA]
theorem bb_eql {x y : Bool} : binA P .eql t cx cy (.bool x) (.bool y) = if isBoolT P t = true then some (.bool (x == y)) else none := rfl
theorem bb_neq {x y : Bool} : binA P .neq t cx cy (.bool x) (.bool y) = if isBoolT P t = true then some (.bool (!(x == y))) else none := rfl
theorem un_not {b : Bool} : unA .not (.bool b) = some (.bool (!b)) := rfl
theorem un_neg : unA .neg (.int q a) = some (.int q (q.wrap (0 - a))) := rfl
theorem ofInt32 (c : BitVec 32) : BitVec.ofInt 32 (c.toNat : Int) = c := by simp
theorem b_and32 : binA P .and t cx cy (.int .u32 a) (.int .u32 b) = some (.int .u32 (BitVec.ofInt 32 a &&& BitVec.ofInt 32 b).toNat) := by
  rw [b_and]
  have hw : ∀ v : BitVec 32, IntKind.u32.wrap (v.toNat : Int) = v.toNat := fun v => by have := v.isLt; simp [IntKind.wrap, IntKind.signed, IntKind.bits]; omega
  exact congrArg some (congrArg (Value.int .u32) (hw _))
theorem b_or32 : binA P .or t cx cy (.int .u32 a) (.int .u32 b) = some (.int .u32 (BitVec.ofInt 32 a ||| BitVec.ofInt 32 b).toNat) := by
  rw [b_or]
  have hw : ∀ v : BitVec 32, IntKind.u32.wrap (v.toNat : Int) = v.toNat := fun v => by have := v.isLt; simp [IntKind.wrap, IntKind.signed, IntKind.bits]; omega
  exact congrArg some (congrArg (Value.int .u32) (hw _))
theorem b_xor32 : binA P .xor t cx cy (.int .u32 a) (.int .u32 b) = some (.int .u32 (BitVec.ofInt 32 a ^^^ BitVec.ofInt 32 b).toNat) := by
  rw [b_xor]
  have hw : ∀ v : BitVec 32, IntKind.u32.wrap (v.toNat : Int) = v.toNat := fun v => by have := v.isLt; simp [IntKind.wrap, IntKind.signed, IntKind.bits]; omega
  exact congrArg some (congrArg (Value.int .u32) (hw _))
theorem b_and8 : binA P .and t cx cy (.int .u8 a) (.int .u8 b) = some (.int .u8 (BitVec.ofInt 8 a &&& BitVec.ofInt 8 b).toNat) := by
  rw [b_and]
  have hw : ∀ v : BitVec 8, IntKind.u8.wrap (v.toNat : Int) = v.toNat := fun v => by have := v.isLt; simp [IntKind.wrap, IntKind.signed, IntKind.bits]; omega
  exact congrArg some (congrArg (Value.int .u8) (hw _))
theorem b_or8 : binA P .or t cx cy (.int .u8 a) (.int .u8 b) = some (.int .u8 (BitVec.ofInt 8 a ||| BitVec.ofInt 8 b).toNat) := by
  rw [b_or]
  have hw : ∀ v : BitVec 8, IntKind.u8.wrap (v.toNat : Int) = v.toNat := fun v => by have := v.isLt; simp [IntKind.wrap, IntKind.signed, IntKind.bits]; omega
  exact congrArg some (congrArg (Value.int .u8) (hw _))
theorem b_xor8 : binA P .xor t cx cy (.int .u8 a) (.int .u8 b) = some (.int .u8 (BitVec.ofInt 8 a ^^^ BitVec.ofInt 8 b).toNat) := by
  rw [b_xor]
  have hw : ∀ v : BitVec 8, IntKind.u8.wrap (v.toNat : Int) = v.toNat := fun v => by have := v.isLt; simp [IntKind.wrap, IntKind.signed, IntKind.bits]; omega
  exact congrArg some (congrArg (Value.int .u8) (hw _))
theorem un_xor32 : unA .xor (.int .u32 a) = some (.int .u32 (~~~ BitVec.ofInt 32 a).toNat) := by
  have hb := b_xor32 (P := default) (t := 0) (cx := false) (cy := false) (a := -1) (b := a)
  have hm : (-1 : Int) = -1 := rfl
  have e : BitVec.ofInt 32 4294967295 = BitVec.allOnes 32 := by decide
  have h2 := b_xor32 (P := default) (t := 0) (cx := false) (cy := false) (a := 4294967295) (b := a)
  rw [e, BitVec.allOnes_xor] at h2
  rw [← h2]
  rfl
def convIntA : Option TypeDesc → Option TypeDesc → Int → AHeap → Option (Value × AHeap)
  | some _, some (.int k), n, h => some (.int k (k.wrap n), h)
  | some _, some .string, n, h => some (.string (Utf8.encode n), h)
  | _, _, _, _ => none
theorem conv_int {s d : TypeId} : convA P s d (.int q a) h = convIntA (P.underlying s) (P.underlying d) a h := by
  unfold convA convIntA
  cases P.underlying s with
  | none => rfl
  | some x =>
    cases P.underlying d with
    | none => rfl
    | some y => cases y <;> rfl
theorem conv_int2 {x : TypeDesc} {k : IntKind} : convIntA (some x) (some (.int k)) a h = some (.int k (k.wrap a), h) := rfl
theorem natOp64 {f : Nat → Nat → Nat} {g : BitVec 64 → BitVec 64 → BitVec 64} (hg : ∀ x y, (g x y).toNat = f x.toNat y.toNat) (hf : ∀ x y, x < 2 ^ 63 → y < 2 ^ 63 → f x y < 2 ^ 63) {x y : Nat} (hx : x < 2 ^ 63) (hy : y < 2 ^ 63) :
    IntKind.i64.wrap ((g (BitVec.ofInt 64 (x : Int)) (BitVec.ofInt 64 (y : Int))).toNat : Int) = (f x y : Nat) := by
  have e : ∀ z : Nat, z < 2 ^ 63 → (BitVec.ofInt 64 (z : Int)).toNat = z := fun z hz => by simp; omega
  rw [hg, e x hx, e y hy]
  have := hf x y hx hy
  simp [IntKind.wrap, IntKind.signed, IntKind.bits]
  split <;> omega
theorem b_and64 {x y : Nat} (hx : x < 2 ^ 63) (hy : y < 2 ^ 63) : binA P .and t cx cy (.int .i64 x) (.int .i64 y) = some (.int .i64 (x &&& y : Nat)) := by
  rw [b_and]
  exact congrArg some (congrArg (Value.int .i64) (natOp64 (f := (· &&& ·)) (g := (· &&& ·)) (fun x y => BitVec.toNat_and x y) (fun x y hx hy => Nat.lt_of_le_of_lt Nat.and_le_left hx) hx hy))
theorem b_or64 {x y : Nat} (hx : x < 2 ^ 63) (hy : y < 2 ^ 63) : binA P .or t cx cy (.int .i64 x) (.int .i64 y) = some (.int .i64 (x ||| y : Nat)) := by
  rw [b_or]
  exact congrArg some (congrArg (Value.int .i64) (natOp64 (f := (· ||| ·)) (g := (· ||| ·)) (fun x y => BitVec.toNat_or x y) (fun x y hx hy => Nat.or_lt_two_pow hx hy) hx hy))
theorem fdivN (x k : Nat) : (x : Int).fdiv (2 ^ k) = ((x / 2 ^ k : Nat) : Int) := by
  have h2 : ((2 : Int) ^ k) = ((2 ^ k : Nat) : Int) := by simp
  rw [h2, Int.fdiv_eq_ediv_of_nonneg _ (Int.natCast_nonneg _)]
  rfl
theorem b_shr32 {c : BitVec 32} {q : IntKind} {n : Nat} : binA P .shr t cx cy (.int .u32 c.toNat) (.int q n) = some (.int .u32 (c >>> n).toNat) := by
  rw [b_shr, if_neg (by omega), fdivN, BitVec.toNat_ushiftRight, Nat.shiftRight_eq_div_pow]
  have hb : IntKind.u32.bits = 32 := rfl
  rw [hb]
  have : ((n : Int)).toNat = n := by simp
  rw [this]
  by_cases hn : n ≤ 32
  · rw [Nat.min_eq_left hn]
  · rw [Nat.min_eq_right (by omega), Nat.div_eq_of_lt c.isLt, Nat.div_eq_of_lt]
    exact Nat.lt_of_lt_of_le c.isLt (Nat.pow_le_pow_right (by decide) (by omega))
theorem b_shr64 {x : Nat} {q : IntKind} {n : Nat} (hn : n ≤ 64) : binA P .shr t cx cy (.int .i64 x) (.int q n) = some (.int .i64 (x / 2 ^ n : Nat)) := by
  rw [b_shr, if_neg (by omega), fdivN]
  have hb : IntKind.i64.bits = 64 := rfl
  have : ((n : Int)).toNat = n := by simp
  rw [hb, this, Nat.min_eq_left hn]
theorem b_shl64 {x : Nat} {q : IntKind} {n : Nat} (hn : n ≤ 64) (hx : x * 2 ^ n < 2 ^ 63) : binA P .shl t cx cy (.int .i64 x) (.int q n) = some (.int .i64 (x * 2 ^ n : Nat)) := by
  have hb : IntKind.i64.bits = 64 := rfl
  have : ((n : Int)).toNat = n := by simp
  rw [b_shl, if_neg (by omega), hb, this, Nat.min_eq_left hn]
  have e : (x : Int) * 2 ^ n = ((x * 2 ^ n : Nat) : Int) := by simp
  rw [e]
  generalize x * 2 ^ n = y at *
  refine congrArg some (congrArg (Value.int .i64) ?_)
  simp [IntKind.wrap, IntKind.signed, IntKind.bits]
  split <;> omega
theorem b_shr32l {c : BitVec 32} {q : IntKind} {z : Int} (hz : 0 ≤ z) : binA P .shr t cx cy (.int .u32 c.toNat) (.int q z) = some (.int .u32 (c >>> z.toNat).toNat) := by
  obtain ⟨n, rfl⟩ := Int.eq_ofNat_of_zero_le hz
  exact b_shr32
theorem b_shr64l {x : Nat} {q : IntKind} {z : Int} (hz : 0 ≤ z) (hn : z ≤ 64) : binA P .shr t cx cy (.int .i64 x) (.int q z) = some (.int .i64 (x / 2 ^ z.toNat : Nat)) := by
  obtain ⟨n, rfl⟩ := Int.eq_ofNat_of_zero_le hz
  exact b_shr64 (by omega)
theorem idxArr {e : TypeId} {sz k b o m : Nat} (hu : P.underlying t = some (.array m e)) (hs : sizeA P e = some sz) (hk : k < m) : indexAddrA P t (.pointer (some ⟨b, o, none⟩)) (.int q k) = some (.pointer (some ⟨b, o + k * sz, none⟩)) := by
  simp only [indexAddrA, hu, hs]
  rw [if_pos ⟨by omega, by omega⟩]
  simp
theorem idxSl {e : TypeId} {sz k b o m cap : Nat} (hu : P.underlying t = some (.slice e)) (hs : sizeA P e = some sz) (hk : k < m) : indexAddrA P t (.slice (some ⟨b, o, none⟩) m cap) (.int q k) = some (.pointer (some ⟨b, o + k * sz, none⟩)) := by
  simp only [indexAddrA, hu, hs]
  rw [if_pos ⟨by omega, by omega⟩]
  simp
theorem idxAgg {e : TypeId} {k m : Nat} {cs : Array Value} (hu : P.underlying t = some (.array m e)) (hs : sizeA P e = some 1) (ha : isAggA P e = some false) (hk : k < m) : indexA P t (.agg cs) (.int q k) = cs[k]? := by
  simp only [indexA, hu, hs, partA, ha]
  rw [if_pos ⟨by omega, by omega⟩]
  simp
theorem idxStr {s : ByteArray} {k : Nat} (hu : P.underlying t = some .string) : indexA P t (.string s) (.int q k) = (s.data[k]?).map fun b => .int .u8 b.toNat := by
  simp only [indexA, hu]
  rw [if_pos (by omega)]
  simp
theorem wrap_id {q : IntKind} {x : Int} (h1 : (if q.signed = true then -2 ^ (q.bits - 1) else 0) ≤ x) (h2 : x < if q.signed = true then 2 ^ (q.bits - 1) else 2 ^ q.bits) : q.wrap x = x := by
  cases q <;> simp [IntKind.wrap, IntKind.signed, IntKind.bits] at * <;> (try split) <;> omega
theorem wrap64 {x : Int} (h1 : -9223372036854775808 ≤ x) (h2 : x < 9223372036854775808) : IntKind.wrap .i64 x = x := wrap_id (by simp [IntKind.signed, IntKind.bits]; omega) (by simp [IntKind.signed, IntKind.bits]; omega)
theorem wrapu8 {x : Int} : IntKind.wrap .u8 x = x % 256 := by simp [IntKind.wrap, IntKind.signed, IntKind.bits]
theorem wrapu16 {x : Int} : IntKind.wrap .u16 x = x % 65536 := by simp [IntKind.wrap, IntKind.signed, IntKind.bits]
theorem wrapu32 {x : Int} : IntKind.wrap .u32 x = x % 4294967296 := by simp [IntKind.wrap, IntKind.signed, IntKind.bits]
theorem wrapu64 {x : Int} : IntKind.wrap .u64 x = x % 18446744073709551616 := by simp [IntKind.wrap, IntKind.signed, IntKind.bits]
/-! ### code -/
variable {Z : AExit → AFrame → AHeap → Prop} {x y : Code} {id : Nat}
theorem AW_skip : AW c n .skip Z fr h = Z .normal fr h := rfl
theorem AW_ret : AW c n .ret Z fr h = Z .ret fr h := rfl
theorem AW_exit : AW c n (.exit id) Z fr h = Z (.exit id) fr h := rfl
theorem AW_reg : AW c n (.region id ops false) Z fr h = RW c n ops (Z .normal) ops.toList fr h := by simp [AW, AW0]
theorem AW_draw : AW c n (.region id ops true) Z fr h = (chkA ops = true ∧ RWD c n ops (mtF c ops) (Z .normal) ops.toList 0 fr h) := by simp [AW, AW0, DW]
theorem AW_seq : AW c n (.seq x y) Z fr h = AW c n x (thenQ (AW c n y Z) Z) fr h := rfl
theorem AW_cond {o : Operand} : AW c n (.cond o x y) Z fr h = CW c fr o (AW c n x Z fr h) (AW c n y Z fr h) := rfl
theorem AW_block : AW c n (.block id x) Z fr h = AW c n x (blockQ id Z) fr h := rfl
theorem AW_loop : AW c n (.loop x) Z fr h = LW c n x Z fr h := rfl
theorem tQn {K : AFrame → AHeap → Prop} : thenQ K Z .normal fr h = K fr h := rfl
theorem tQe {K : AFrame → AHeap → Prop} : thenQ K Z (.exit id) fr h = Z (.exit id) fr h := rfl
theorem tQr {K : AFrame → AHeap → Prop} : thenQ K Z .ret fr h = Z .ret fr h := rfl
theorem bQn : blockQ id Z .normal fr h = Z .normal fr h := rfl
theorem bQe {i : Nat} : blockQ id Z (.exit i) fr h = if i = id then Z .normal fr h else Z (.exit i) fr h := rfl
theorem bQr : blockQ id Z .ret fr h = Z .ret fr h := rfl
theorem rQn {rs : List ResultVar} {K : Value → AHeap → Prop} : retQ c rs K .normal fr h = someP (resA c.P fr h rs) fun vs => K (oneA vs) h := rfl
theorem rQr {rs : List ResultVar} {K : Value → AHeap → Prop} : retQ c rs K .ret fr h = someP (resA c.P fr h rs) fun vs => K (oneA vs) h := rfl
theorem res_n {K : List Value → Prop} : someP (resA P fr h []) K = K [] := someP_s
theorem res_t {t : Tmp} {l : List ResultVar} {K : List Value → Prop} : someP (resA P fr h (.tmp t :: l)) K = someP (resA P fr h l) fun vs => K (fget fr t :: vs) := by
  simp only [resA]
  cases resA P fr h l <;> simp [someP_n, someP_s]
theorem res_c {a : Tmp} {u : TypeId} {l : List ResultVar} {K : List Value → Prop} : someP (resA P fr h (.cell a u :: l)) K = someP (loadA P h u (fget fr a)) fun v => someP (resA P fr h l) fun vs => K (v :: vs) := by
  simp only [resA]
  cases loadA P h u (fget fr a) <;> cases resA P fr h l <;> simp [someP_n, someP_s]
theorem one1 {v : Value} : oneA [v] = v := rfl
theorem one0 : oneA [] = .tuple #[] := rfl
theorem one2 {v w : Value} {l : List Value} : oneA (v :: w :: l) = .tuple (v :: w :: l).toArray := rfl
end
end Go.Abs
/- Abs24: the abstract heap: what grows, what a block holds after each step. Conditions: none. -/
namespace Go.Abs
/-- A heap that begins with another. -/
def Ext (h h' : AHeap) : Prop := ∃ g, h' = h ++ g
theorem Ext.refl (h : AHeap) : Ext h h := ⟨[], by simp⟩
theorem Ext.trans {a b c : AHeap} (x : Ext a b) (y : Ext b c) : Ext a c := by
  obtain ⟨g, rfl⟩ := x; obtain ⟨g', rfl⟩ := y; exact ⟨g ++ g', by simp⟩
theorem Ext.app (h g : AHeap) : Ext h (h ++ g) := ⟨g, rfl⟩
theorem Ext.app' {a h : AHeap} (g : AHeap) (x : Ext a h) : Ext a (h ++ g) := x.trans (.app h g)
theorem Ext.len {a b : AHeap} (x : Ext a b) : a.length ≤ b.length := by obtain ⟨g, rfl⟩ := x; simp
theorem Ext.set {a h : AHeap} (x : Ext a h) {b : Nat} (hb : a.length ≤ b) (v : Option AObj) : Ext a (h.set b v) := by
  obtain ⟨g, rfl⟩ := x
  exact ⟨g.set (b - a.length) v, by rw [List.set_append_right _ _ hb]⟩
theorem Ext.get {a h : AHeap} (x : Ext a h) {b : Nat} (hb : b < a.length) : h[b]? = a[b]? := by
  obtain ⟨g, rfl⟩ := x
  rw [List.getElem?_append_left hb]
theorem blkA_lt {h : AHeap} {b : Nat} {k : Blk} (hb : blkA h b = some k) : b < h.length := by
  unfold blkA at hb
  split at hb
  · rename_i hg; exact (List.getElem?_eq_some_iff.1 hg).1
  · cases hb
theorem Ext.blk {a h : AHeap} (x : Ext a h) {b : Nat} {k : Blk} (hb : blkA a b = some k) : blkA h b = some k := by
  have hl := blkA_lt hb
  unfold blkA at hb ⊢
  rw [x.get hl]
  exact hb
theorem blkA_app {h : AHeap} {b : Nat} {k : Blk} (g : AHeap) (hb : blkA h b = some k) : blkA (h ++ g) b = some k := (Ext.app h g).blk hb
theorem blkA_new (h : AHeap) (k : Blk) : blkA (h ++ [some (.cells k)]) h.length = some k := by
  unfold blkA; simp
theorem blkA_set {h : AHeap} {b : Nat} {k k' : Blk} (hb : blkA h b = some k) : blkA (h.set b (some (.cells k'))) b = some k' := by
  unfold blkA; rw [List.getElem?_set_self (blkA_lt hb)]
theorem blkA_set_ne {h : AHeap} {b b' : Nat} (v : Option AObj) (hn : b ≠ b') : blkA (h.set b v) b' = blkA h b' := by
  unfold blkA; rw [List.getElem?_set_ne hn]
/-- After the block b is gone and a new one made. -/
theorem blkA_moved (h : AHeap) (b : Nat) (v : Option AObj) (k : Blk) : blkA (h.set b v ++ [some (.cells k)]) h.length = some k := by
  have := blkA_new (h.set b v) k
  rwa [List.length_set] at this
theorem putCells_len : ∀ (vs l : List Value) (o : Nat), (putCells l o vs).length = l.length
  | [], l, o => rfl
  | v :: vs, l, o => by simp only [putCells]; rw [putCells_len vs]; simp
theorem putCells_eq : ∀ (vs l : List Value) (o : Nat), o + vs.length ≤ l.length → putCells l o vs = l.take o ++ vs ++ l.drop (o + vs.length)
  | [], l, o, ho => by simp [putCells]
  | v :: vs, l, o, ho => by
    simp only [List.length_cons] at ho
    have ho2 : o < l.length := by omega
    simp only [putCells]
    rw [putCells_eq vs (l.set o v) (o + 1) (by rw [List.length_set]; omega)]
    have e1 : (l.set o v).take (o + 1) = l.take o ++ [v] := by
      rw [List.take_set, List.take_succ_eq_append_getElem ho2]
      have hlen : (l.take o).length = o := by rw [List.length_take]; omega
      rw [List.set_append_right _ _ (by omega), hlen]
      simp
    have e2 : (l.set o v).drop (o + 1 + vs.length) = l.drop (o + (vs.length + 1)) := by
      rw [List.drop_set_of_lt (by omega)]
      congr 1; omega
    rw [e1, e2]
    simp [List.append_assoc]
theorem putCells_all (vs l : List Value) (hl : vs.length = l.length) : putCells l 0 vs = vs := by
  rw [putCells_eq vs l 0 (by omega)]
  simp [hl]
section
variable {P : Program} {h : AHeap} {t : TypeId} {b o : Nat} {k : Blk} {v : Value}
theorem store1 (hs : sizeA P t = some 1) (hv : v.cells = #[v]) (h1 : oneCellA v = true) (hb : blkA h b = some k) (hro : k.ro = false) (ho : o < k.cells.length) :
    storeA P h t (.pointer (some ⟨b, o, none⟩)) v = some (h.set b (some (.cells ⟨k.cells.set o v, k.esz, k.ro⟩))) := by
  simp only [storeA, hs, hv, writeA, hb, hro, putCells, List.size_toArray, List.length_cons, List.length_nil, if_true, List.all_cons, List.all_nil, Bool.and_true, h1]
  rw [if_pos ⟨trivial, by omega, trivial⟩]
theorem storeN {cs : List Value} (hs : sizeA P t = some cs.length) (h1 : cs.all oneCellA = true) (hb : blkA h b = some k) (hro : k.ro = false) (ho : o + cs.length ≤ k.cells.length) :
    storeA P h t (.pointer (some ⟨b, o, none⟩)) (.agg cs.toArray) = some (h.set b (some (.cells ⟨putCells k.cells o cs, k.esz, k.ro⟩))) := by
  have hc : (Value.agg cs.toArray).cells = cs.toArray := rfl
  simp only [storeA, hs, hc, writeA, hb, hro, List.size_toArray, if_true]
  rw [if_pos ⟨trivial, ho, h1⟩]
theorem load1 (ha : isAggA P t = some false) (hs : sizeA P t = some 1) (hb : blkA h b = some k) (ho : k.cells[o]? = some v) : loadA P h t (.pointer (some ⟨b, o, none⟩)) = some v := by
  simp only [loadA, hb, ha, hs, ho]
theorem loadN {n : Nat} (ha : isAggA P t = some true) (hs : sizeA P t = some n) (hb : blkA h b = some k) (ho : o + n ≤ k.cells.length) : loadA P h t (.pointer (some ⟨b, o, none⟩)) = some (.agg ((k.cells.drop o).take n).toArray) := by
  simp only [loadA, hb, ha, hs, takeA, ho, if_true, Option.map_some]
end
theorem repCells1 (v : Value) : ∀ n, repCells [v] n = List.replicate n v
  | 0 => rfl
  | n + 1 => by simp only [repCells, repCells1 v n]; rfl
theorem mkSl {P : Program} {h : AHeap} {t e : TypeId} {z : List Value} {sz by_ n m : Nat} {q q' : IntKind} (hu : P.underlying t = some (.slice e)) (hs : sizeA P e = some sz) (hz : zeroA P e = some z) (hb : bytesA P e = some by_) (hl : z.length = sz) (h0 : 0 < sz) (hn : n ≤ m) (hm : m * by_ ≤ 281474976710656) (hm2 : m ≤ 9223372036854775807) :
    makeSliceA P t (.int q n) (.int q' m) h = some (.slice (some ⟨h.length, 0, none⟩) n n, h ++ [some (.cells ⟨repCells z n, sz, false⟩)]) := by
  simp only [makeSliceA, hu, hs, hz, hb]
  have e : (m : Int) * (by_ : Int) = ((m * by_ : Nat) : Int) := (Int.natCast_mul m by_).symm
  rw [if_pos ⟨by omega, by omega, by rw [e]; omega, by omega, hl, h0⟩]
  rw [Int.toNat_natCast]
  rfl
theorem sliceCells_some {h : AHeap} {b o n m sz : Nat} {k : Blk} (hb : blkA h b = some k) (hn : o + n * sz ≤ k.cells.length) : sliceCells h sz (.slice (some ⟨b, o, none⟩) n m) = some ((k.cells.drop o).take (n * sz)) := by
  simp only [sliceCells, hb, takeA, hn, if_true]
def byteV (b : UInt8) : Value := .int .u8 b.toNat
theorem strOf_map (l : List UInt8) : strOf (l.map byteV) = some l := by
  induction l with
  | nil => rfl
  | cons b l ih => simp [strOf, byteV, ih]
theorem bytesV_map (s : ByteArray) : bytesV s = s.data.toList.map byteV := rfl
/-- A slice of bytes, as a string. -/
theorem convStr {P : Program} {h : AHeap} {t u e : TypeId} {b o n m : Nat} {k : Blk} {l : List UInt8} (ht : P.underlying t = some (.slice e)) (hu : P.underlying u = some .string) (he : isU8 P e = true) (hb : blkA h b = some k) (hn : o + n ≤ k.cells.length) (hl : (k.cells.drop o).take n = l.map byteV) :
    convA P t u (.slice (some ⟨b, o, none⟩) n m) h = some (.string ⟨l.toArray⟩, h) := by
  simp only [convA, ht, hu, he, if_true]
  rw [sliceCells_some hb (by omega)]
  rw [Nat.mul_one, hl]
  simp only [Option.bind_some, strOf_map]
/-- A string, as a new slice of bytes. -/
theorem convBytes {P : Program} {h : AHeap} {t u e : TypeId} {s : ByteArray} (ht : P.underlying t = some .string) (hu : P.underlying u = some (.slice e)) (he : isU8 P e = true) (hs : sizeA P e = some 1) :
    convA P t u (.string s) h = some (.slice (some ⟨h.length, 0, none⟩) s.size s.size, h ++ [some (.cells ⟨s.data.toList.map byteV, 1, false⟩)]) := by
  simp only [convA, ht, hu, he, hs, newA, and_self, if_true]
  rfl
theorem Ext.take {h h' : AHeap} (e : Ext h h') : h'.take h.length = h := by obtain ⟨g, rfl⟩ := e; simp
theorem DQ_call {op : Op} {h h' : AHeap} {m : Bool} {p : Prop} (e : Ext h h') : DQ op m h h' p = p := by simp [DQ, e.take]
/-- Behind a call whose value is known and which left all blocks as they were. -/
def Quiet (c : Ctx) (f : FuncId) (args : List Value) (h : AHeap) (w : Value) : Prop := FW c f args h fun v h' => v = w ∧ Ext h h'
theorem Quiet.use {c : Ctx} {f : FuncId} {args : List Value} {h : AHeap} {w : Value} (hq : Quiet c f args h w) {K : Value → AHeap → Prop} (hk : ∀ h', Ext h h' → K w h') : FW c f args h K := by
  refine FW.mono hq fun v h' hh => ?_
  obtain ⟨rfl, he⟩ := hh
  exact hk h' he
theorem LW_unfold {c : Ctx} {n : Nat} {a : Code} {Q : AExit → AFrame → AHeap → Prop} {fr : AFrame} {h : AHeap} (hw : AW c n a (thenQ (LW c n a Q) Q) fr h) : LW c n a Q fr h := by
  obtain ⟨x, fr', h', he, hQ⟩ := AW_sound _ _ _ _ hw
  cases x with
  | normal => obtain ⟨x2, fr2, h2, he2, hQ2⟩ := hQ; exact ⟨x2, fr2, h2, loopU_next he he2, hQ2⟩
  | exit i => exact ⟨_, _, _, loopU_out he (by simp), hQ⟩
  | ret => exact ⟨_, _, _, loopU_out he (by simp), hQ⟩
end Go.Abs
/- Abs25: how a law's arguments come into the abstract heap, and what a call of the law then tells of the model. Conditions: none. -/
set_option maxRecDepth 100000
namespace Go.Abs
open Go.WideShapes Go.ChangeShapes
/-- Cells that hold a value without addresses. -/
inductive Flat (P : Program) : TypeId → List Value → Prop
  | bool {t : TypeId} (b : Bool) (h : P.underlying t = some .bool) : Flat P t [.bool b]
  | int {t : TypeId} {k : IntKind} (n : Int) (h : P.underlying t = some (.int k)) (h1 : (Lit.int k n).wf = true) : Flat P t [.int k n]
  | str {t : TypeId} (s : ByteArray) (h : P.underlying t = some .string) (h1 : s.size ≤ 140737488351232) : Flat P t [.string s]
  | struct {t : TypeId} {fs : Array Field} {cs : List Value} (h : P.underlying t = some (.struct fs)) (h1 : cs.length = P.cellsOf t)
      (h2 : ∀ (i : Nat) (f : Field), fs[i]? = some f → Flat P f.type ((cs.drop f.offset).take (P.cellsOf f.type))) : Flat P t cs
theorem Flat.int_inv {P : Program} {t : TypeId} {k : IntKind} {cs : List Value} (h : Flat P t cs) (hu : P.underlying t = some (.int k)) : ∃ n, cs = [.int k n] ∧ (Lit.int k n).wf = true := by
  cases h with
  | bool b h => rw [hu] at h; cases h
  | int n h h1 => rw [hu] at h; cases h; exact ⟨n, rfl, h1⟩
  | str s h h1 => rw [hu] at h; cases h
  | struct h h1 h2 => rw [hu] at h; cases h
theorem Flat.str_inv {P : Program} {t : TypeId} {cs : List Value} (h : Flat P t cs) (hu : P.underlying t = some .string) : ∃ s, cs = [.string s] ∧ s.size ≤ 140737488351232 := by
  cases h with
  | bool b h => rw [hu] at h; cases h
  | int n h h1 => rw [hu] at h; cases h
  | str s h h1 => exact ⟨s, rfl, h1⟩
  | struct h h1 h2 => rw [hu] at h; cases h
theorem Flat.bool_inv {P : Program} {t : TypeId} {cs : List Value} (h : Flat P t cs) (hu : P.underlying t = some .bool) : ∃ b, cs = [.bool b] := by
  cases h with
  | bool b h => exact ⟨b, rfl⟩
  | int n h h1 => rw [hu] at h; cases h
  | str s h h1 => rw [hu] at h; cases h
  | struct h h1 h2 => rw [hu] at h; cases h
theorem Flat.struct_inv {P : Program} {t : TypeId} {fs : Array Field} {cs : List Value} (h : Flat P t cs) (hu : P.underlying t = some (.struct fs)) : cs.length = P.cellsOf t ∧ ∀ (i : Nat) (f : Field), fs[i]? = some f → Flat P f.type ((cs.drop f.offset).take (P.cellsOf f.type)) := by
  cases h with
  | bool b h => rw [hu] at h; cases h
  | int n h h1 => rw [hu] at h; cases h
  | str s h h1 => rw [hu] at h; cases h
  | struct h h1 h2 => rw [hu] at h; cases h; exact ⟨h1, h2⟩
/-- Types without addresses, closed under parts. -/
def flatTypes (P : Program) (S : List TypeId) : Bool := S.all fun t =>
  match P.underlying t with
  | some .bool => true
  | some (.int _) => true
  | some .string => true
  | some (.struct fs) => fs.toList.all fun f => S.contains f.type
  | _ => false
section
variable {H : Type} {enc : TypeId × Value → H} {P : Program} {w : World} {G : Nat → Option Nat} {B : Nat} {S : List TypeId}
theorem weightsEach_get {ts : List TypeId} {ds : List (DataW H)} (h : (DataW.weightsEach P ts ds).all (· ≤ reachBytes) = true) {i : Nat} {t : TypeId} {d : DataW H} (ht : ts[i]? = some t) (hd : ds[i]? = some d) : (d.weights P t).all (· ≤ reachBytes) = true :=
  List.all_eq_true.2 fun n hn => List.all_eq_true.1 h n (DataW.weights_mem_each ht hd n hn)
theorem weightsAll_get {e : TypeId} : ∀ {ds : List (DataW H)}, (DataW.weightsAll P e ds).all (· ≤ reachBytes) = true → ∀ {i : Nat} {d : DataW H}, ds[i]? = some d → (d.weights P e).all (· ≤ reachBytes) = true
  | [], _, i, d, hd => by simp at hd
  | x :: ds, h, i, d, hd => by
    simp only [DataW.weightsAll, List.all_append, Bool.and_eq_true] at h
    cases i with
    | zero => simp at hd; subst hd; exact h.1
    | succ i => exact weightsAll_get h.2 (by simpa using hd)
theorem flat_of (hS : flatTypes P S = true) : ∀ (n : Nat) (t : TypeId) (cs : List Value) (x : DataW H × List MemPlace), S.contains t = true →
    DataW.trod enc P w 0 (fun _ => true) true n t cs = some x → (x.1.weights P t).all (· ≤ reachBytes) = true → Flat P t cs := by
  intro n
  induction n with
  | zero => intro t cs x _ h; simp [DataW.trod] at h
  | succ n ih =>
    intro t cs x ht h hw
    have h1 := List.all_eq_true.1 hS t (by simpa using ht)
    split at h1
    · rename_i hu
      obtain ⟨b, rfl, rfl⟩ := DataW.trod_bool hu h
      exact .bool b hu
    · rename_i k hu
      obtain ⟨z, rfl, rfl, hz⟩ := DataW.trod_int hu h
      exact .int z hu hz
    · rename_i hu
      obtain ⟨s, rfl, rfl, hz⟩ := DataW.trod_string hu h
      refine .str s hu ?_
      simp only [DataW.weights, List.all_cons, List.all_nil, Bool.and_true, reachBytes] at hw
      have := of_decide_eq_true hw
      rwa [Array.length_toList] at this
    · rename_i fs hu
      obtain ⟨xs, m, hm, rfl, hl, hn, hf⟩ := DataW.trod_struct hu h
      obtain rfl : m = n := by omega
      simp only [DataW.weights, hu] at hw
      refine .struct hu hl fun i f hi => ?_
      have hlt : i < xs.length := by rw [hn]; exact (Array.getElem?_eq_some_iff.1 hi).1
      have hx := hf i f hi
      rw [List.getElem?_eq_getElem hlt] at hx
      refine ih _ _ _ ?_ hx ?_
      · have := List.all_eq_true.1 h1 f (by have := Array.mem_of_getElem? hi; simpa using this)
        exact this
      · refine weightsEach_get hw (i := i) ?_ ?_
        · rw [List.getElem?_map, Array.getElem?_toList, hi]; rfl
        · rw [List.getElem?_map, List.getElem?_eq_getElem hlt]; rfl
    · cases h1
end
/-- A slice in the abstract heap, as a list: f gives an element's cells, sz how many. -/
def Sl {α : Type} (f : α → List Value) (sz : Nat) (ro : Bool) (h : AHeap) (v : Value) (l : List α) : Prop :=
  (v = .slice none 0 0 ∧ l = []) ∨ ∃ b o m cells, v = .slice (some ⟨b, o, none⟩) l.length m ∧ blkA h b = some ⟨cells, sz, ro⟩ ∧ (cells.drop o).take (l.length * sz) = l.flatMap f ∧ o + l.length * sz ≤ cells.length
theorem Sl.mono {α : Type} {f : α → List Value} {sz : Nat} {ro : Bool} {h h' : AHeap} {v : Value} {l : List α} (s : Sl f sz ro h v l) (e : Ext h h') : Sl f sz ro h' v l := by
  rcases s with s | ⟨b, o, m, cells, h1, h2, h3⟩
  · exact .inl s
  · exact .inr ⟨b, o, m, cells, h1, e.blk h2, h3⟩
theorem flatMap_len {α : Type} {f : α → List Value} {sz : Nat} (hf : ∀ x, (f x).length = sz) : ∀ l : List α, (l.flatMap f).length = l.length * sz
  | [] => by simp
  | x :: l => by rw [List.flatMap_cons, List.length_append, flatMap_len hf l, hf, List.length_cons, Nat.add_mul]; omega
theorem flatMap_chunk {α : Type} {f : α → List Value} {sz : Nat} (hf : ∀ x, (f x).length = sz) : ∀ (l : List α) (i : Nat) (x : α), l[i]? = some x → ((l.flatMap f).drop (i * sz)).take sz = f x
  | [], i, x, h => by simp at h
  | y :: l, 0, x, h => by
    simp at h; subst h
    rw [Nat.zero_mul, List.drop_zero, List.flatMap_cons, List.take_append_of_le_length (by rw [hf]; exact Nat.le_refl _), List.take_of_length_le (by rw [hf]; exact Nat.le_refl _)]
  | y :: l, i + 1, x, h => by
    rw [List.flatMap_cons, Nat.add_mul, Nat.one_mul, Nat.add_comm, ← List.drop_drop]
    have : (f y ++ l.flatMap f).drop sz = l.flatMap f := by
      rw [List.drop_append, List.drop_of_length_le (by rw [hf]; exact Nat.le_refl _), hf]; simp
    rw [this]
    exact flatMap_chunk hf l i x (by simpa using h)
section
variable {H : Type} {enc : TypeId × Value → H} {P : Program} {w : World} {G : Nat → Option Nat} {B : Nat} {S : List TypeId}
/-- Cells without addresses stand to themselves. -/
theorem LR.self (E : Env) {cs : List Value} (h : cs.all (plainV 1) = true) : LR E cs cs := LR.plain E 1 cs h
theorem mem_cell {b o n : Nat} {cs : List Value} (h : w.cells? 0 (⟨b, o, none⟩ : Addr) n = some cs) : cs.length = n ∧ ∀ i, i < n → ∃ c el fz, w.heap[b]? = some (.cells c el fz) ∧ c[o + i]? = cs[i]? := by
  obtain ⟨_, h1, h2⟩ := World.cells?_some h
  refine ⟨h1, fun i hi => ?_⟩
  have := h2 i hi
  rw [add_plain] at this
  have hs : cs[i]? = some (cs[i]'(by omega)) := List.getElem?_eq_getElem _
  rw [hs] at this ⊢
  unfold World.cell? at this
  split at this
  · rename_i c el fz hh; exact ⟨c, el, fz, hh, by simpa using this⟩
  · cases this
theorem Env.put_none {E : Env} {n id : Nat} {e : Ent} (hn : id ≠ n) (h : E id = none) : E.put n e id = none := by
  unfold Env.put; rw [if_neg hn]; exact h
/-- A new read-only block that stands for cells of the model. -/
theorem Sim.lay {E : Env} {h : AHeap} (s : Sim G B E h w) (hf : ∀ id, h.length ≤ id → E id = none) (hw : ∀ (id : Nat) (o : AObj), h[id]? = some (some o) → wrO o = false) {b o sz : Nat} {c : Array Value} {el : TypeId} {fz : Nat × Nat} {cells : List Value} (hb : w.heap[b]? = some (.cells c el fz))
    (hc : ∀ (j : Nat) v, cells[j]? = some v → c[o + j]? = some v) (hp : cells.all (plainV 1) = true) :
    Sim G B (E.put h.length ⟨b, o, c.size, sz⟩) (h ++ [some (.cells ⟨cells, sz, true⟩)]) w := by
  have hle := Env.put_le (n := h.length) (⟨b, o, c.size, sz⟩ : Ent) (hf _ (Nat.le_refl _))
  have hold : ∀ (id : Nat) (oo : AObj) (e : Ent), (h ++ [some (.cells ⟨cells, sz, true⟩)])[id]? = some (some oo) → (E.put h.length ⟨b, o, c.size, sz⟩) id = some e →
      (h[id]? = some (some oo) ∧ E id = some e) ∨ (id = h.length ∧ oo = .cells ⟨cells, sz, true⟩ ∧ e = ⟨b, o, c.size, sz⟩) := by
    intro id oo e h1 h2
    rw [List.getElem?_append] at h1
    split at h1
    · rename_i hlt
      unfold Env.put at h2
      rw [if_neg (by omega)] at h2
      exact .inl ⟨h1, h2⟩
    · rename_i hge
      have hid : id = h.length := by
        have := (List.getElem?_eq_some_iff.1 h1).1
        simp at this; omega
      subst hid
      simp at h1
      unfold Env.put at h2
      simp at h2
      exact .inr ⟨rfl, h1.symm, h2.symm⟩
  have hro : ∀ (id : Nat) (oo : AObj), (h ++ [some (.cells ⟨cells, sz, true⟩)])[id]? = some (some oo) → wrO oo = false := by
    intro id oo h1
    rw [List.getElem?_append] at h1
    split at h1
    · exact hw id oo h1
    · have hid : id - h.length = 0 := by
        have := (List.getElem?_eq_some_iff.1 h1).1
        simp at this; omega
      rw [hid] at h1
      simp at h1
      subst h1
      rfl
  refine ⟨fun id oo e h1 h2 => ?_, fun id oo e h1 h2 h3 => ?_, fun i j oi oj ei ej hij h1 h2 h3 h4 h5 => ?_, s.base, fun g id hg => ?_⟩
  · rcases hold id oo e h1 h2 with ⟨a1, a2⟩ | ⟨rfl, rfl, rfl⟩
    · exact (s.obj id oo e a1 a2).mono hle rfl
    · refine ⟨c, el, fz, hb, rfl, rfl, fun j v hj => ?_, fun hh => by cases hh⟩
      refine ⟨v, hc j v hj, VR.plain _ 1 v (List.all_eq_true.1 hp v (List.mem_of_getElem? hj))⟩
  · rw [hro id oo h1] at h3; cases h3
  · rw [hro i oi h1] at h5; cases h5
  · obtain ⟨e, he, h1⟩ := s.glob g id hg
    exact ⟨e, hle id e he, h1⟩
/-- What is known at the begin: the abstract heap so far, all of it read only; the places from there on are free. -/
structure Laid (G : Nat → Option Nat) (B : Nat) (E : Env) (h : AHeap) (w : World) : Prop where
  sim : Sim G B E h w
  free : ∀ id, h.length ≤ id → E id = none
  ro : ∀ (id : Nat) (o : AObj), h[id]? = some (some o) → wrO o = false
theorem Laid.start (hG : G = fun _ => none) (hB : B ≤ w.heap.size) : Laid G B (fun _ => none) [] w := by
  subst hG
  refine ⟨⟨fun id o e h => by simp at h, fun id o e h => by simp at h, fun i j oi oj ei ej _ h => by simp at h, hB, fun g id h => by cases h⟩, fun _ _ => rfl, fun id o h => by simp at h⟩
theorem Laid.add {E : Env} {h : AHeap} (s : Laid G B E h w) {b o sz : Nat} {c : Array Value} {el : TypeId} {fz : Nat × Nat} {cells : List Value} (hb : w.heap[b]? = some (.cells c el fz))
    (hc : ∀ (j : Nat) v, cells[j]? = some v → c[o + j]? = some v) (hp : cells.all (plainV 1) = true) :
    Laid G B (E.put h.length ⟨b, o, c.size, sz⟩) (h ++ [some (.cells ⟨cells, sz, true⟩)]) w := by
  refine ⟨s.sim.lay s.free s.ro hb hc hp, fun id hid => ?_, fun id oo h1 => ?_⟩
  · simp at hid
    exact Env.put_none (by omega) (s.free id (by omega))
  · rw [List.getElem?_append] at h1
    split at h1
    · exact s.ro id oo h1
    · have hid : id - h.length = 0 := by
        have := (List.getElem?_eq_some_iff.1 h1).1
        simp at this; omega
      rw [hid] at h1
      simp at h1
      subst h1
      rfl
/-- A cell that holds a slice of values without addresses. -/
theorem Laid.slice {α : Type} {f : α → List Value} {ok : α → Prop} {E : Env} {h : AHeap} (s : Laid G B E h w) {t e : TypeId} {v : Value} {d : DataW H} {ps : List MemPlace} (hS : flatTypes P S = true) (he : S.contains e = true) (hu : P.underlying t = some (.slice e))
    (hpos : 0 < P.cellsOf e) (hinv : ∀ cs, Flat P e cs → ∃ x, cs = f x ∧ ok x) (hpl : ∀ x, (f x).all (plainV 1) = true) (hlen : ∀ x, (f x).length = P.cellsOf e)
    (hval : Cell.ok P w .any 0 t v) (hd : DataW.Trod enc P w 0 (fun _ => true) true t v d ps) (hw : (d.weights P t).all (· ≤ reachBytes) = true) :
    ∃ (E' : Env) (k : AHeap) (va : Value) (l : List α), E.le E' ∧ Laid G B E' (h ++ k) w ∧ VR E' va v ∧ Sl f (P.cellsOf e) true (h ++ k) va l ∧ l.length * P.bytesOf e ≤ 140737488351232 ∧ ∀ x ∈ l, ok x := by
  obtain ⟨fuel, hf⟩ := hd
  rcases DataW.trod_slice hu hf with ⟨hcs, hx⟩ | ⟨a, len, cap, elems, rest, n, _, hcs, hx, _, hle, hmax, hel, hget, hsp, _⟩
  · have hv : v = .slice none 0 0 := by
      cases v <;> simp [Value.cells] at hcs
      all_goals first | (obtain ⟨rfl, rfl, rfl⟩ := hcs; rfl) | (exfalso; simp [Cell.ok, hu] at hval)
    subst hv
    exact ⟨E, [], _, [], Env.le.refl E, by rw [List.append_nil]; exact s, .nilsl, .inl ⟨rfl, rfl⟩, by simp, by simp⟩
  · have hv : v = .slice (some a) len cap := by
      cases v <;> simp [Value.cells] at hcs
      all_goals first | (obtain ⟨rfl, rfl, rfl⟩ := hcs; rfl) | (exfalso; simp [Cell.ok, hu] at hval)
    subst hv
    simp only [Cell.ok, hu] at hval
    obtain ⟨_, _, _, hspot, row, cells0, hshape, _⟩ := hval
    obtain ⟨b, o, sp⟩ := a
    simp only at hspot
    subst hspot
    have hobj : ∃ c el fz, w.heap[b]? = some (.cells c el fz) := by
      unfold World.shape? at hshape
      split at hshape
      · rename_i c el fz hh; exact ⟨c, el, fz, hh⟩
      · cases hshape
    obtain ⟨c, el, fz, hblk⟩ := hobj
    cases hx
    simp only [DataW.weights, hu, List.all_cons, List.all_append, Bool.and_eq_true, List.length_map] at hw
    obtain ⟨hw1, hw2, _⟩ := hw
    have hw1 := of_decide_eq_true hw1
    simp only [reachBytes] at hw1
    have hsp' := hsp rfl
    -- each element
    have each : ∀ i, i < len → ∃ x : α, ok x ∧ ∀ j, j < P.cellsOf e → c[o + i * P.cellsOf e + j]? = (f x)[j]? := by
      intro i hi
      have h1 := hget i hi
      have hlt : i < elems.length := by omega
      rw [List.getElem?_eq_getElem hlt, Option.bind_eq_some_iff] at h1
      obtain ⟨cs, hcs2, hy⟩ := h1
      rw [add_plain] at hcs2
      obtain ⟨hl, hm⟩ := mem_cell hcs2
      have hfl := flat_of hS n e cs _ he hy (by
        refine weightsAll_get (ds := elems.map (·.1)) hw2 (i := i) ?_
        rw [List.getElem?_map, List.getElem?_eq_getElem hlt]; rfl)
      obtain ⟨x, rfl, hok⟩ := hinv cs hfl
      refine ⟨x, hok, fun j hj => ?_⟩
      obtain ⟨c', el', fz', h3, h4⟩ := hm j hj
      rw [hblk] at h3
      cases h3
      exact h4
    have fitcap : cap ≠ 0 → o + cap * P.cellsOf e ≤ c.size := by
      intro hc0
      -- the last element
      have h1 : (w.cells? 0 ((⟨b, o, none⟩ : Addr).add ((cap - 1) * P.cellsOf e)) (P.cellsOf e)).isSome = true := by
        by_cases hl : cap - 1 < len
        · have h1 := hget (cap - 1) hl
          rw [List.getElem?_eq_getElem (by omega), Option.bind_eq_some_iff] at h1
          obtain ⟨cs, h2, _⟩ := h1
          rw [h2]; rfl
        · obtain ⟨h2, h3⟩ := hsp'
          have h4 := h3 (cap - 1 - len) (by omega)
          rw [show len + (cap - 1 - len) = cap - 1 by omega, List.getElem?_eq_getElem (by omega), Option.bind_eq_some_iff] at h4
          obtain ⟨cs, h5, _⟩ := h4
          rw [h5]; rfl
      obtain ⟨cs, hcs2⟩ := Option.isSome_iff_exists.1 h1
      rw [add_plain] at hcs2
      obtain ⟨hl, hm⟩ := mem_cell hcs2
      obtain ⟨c', el', fz', h3, h4⟩ := hm (P.cellsOf e - 1) (by omega)
      rw [hblk] at h3
      cases h3
      rw [List.getElem?_eq_getElem (by omega)] at h4
      have := (Array.getElem?_eq_some_iff.1 h4).1
      have e1 : cap * P.cellsOf e = (cap - 1) * P.cellsOf e + P.cellsOf e := by
        obtain ⟨q, rfl⟩ : ∃ q, cap = q + 1 := ⟨cap - 1, by omega⟩
        rw [Nat.add_sub_cancel, Nat.add_mul, Nat.one_mul]
      omega
    -- the list
    have list : ∀ m, m ≤ len → ∃ l : List α, l.length = m ∧ (∀ x ∈ l, ok x) ∧ ∀ (j : Nat) u, (l.flatMap f)[j]? = some u → c[o + j]? = some u := by
      intro m
      induction m with
      | zero => intro _; exact ⟨[], rfl, by simp, by simp⟩
      | succ m ih =>
        intro hm
        obtain ⟨l, h1, h2, h3⟩ := ih (by omega)
        obtain ⟨x, hx1, hx2⟩ := each m (by omega)
        refine ⟨l ++ [x], by simp [h1], fun y hy => ?_, fun j u hj => ?_⟩
        · rcases List.mem_append.1 hy with hy | hy
          · exact h2 y hy
          · simp at hy; subst hy; exact hx1
        · rw [List.flatMap_append, List.getElem?_append] at hj
          have hfl := flatMap_len hlen l
          rw [h1] at hfl
          split at hj
          · exact h3 j u hj
          · simp only [List.flatMap_cons, List.flatMap_nil, List.append_nil] at hj
            rename_i hge
            rw [hfl] at hj hge
            have hlt := (List.getElem?_eq_some_iff.1 hj).1
            rw [hlen] at hlt
            have := hx2 (j - m * P.cellsOf e) hlt
            rw [hj] at this
            rw [← this]
            congr 1
            omega
    obtain ⟨l, hl1, hl2, hl3⟩ := list len (Nat.le_refl _)
    have hp : (l.flatMap f).all (plainV 1) = true := by
      refine List.all_eq_true.2 fun u hu2 => ?_
      obtain ⟨x, hx1, hx2⟩ := List.mem_flatMap.1 hu2
      exact List.all_eq_true.1 (hpl x) u hx2
    have hnew := s.add (sz := P.cellsOf e) hblk hl3 hp
    have hfl := flatMap_len hlen l
    refine ⟨_, [some (.cells ⟨l.flatMap f, P.cellsOf e, true⟩)], .slice (some ⟨h.length, 0, none⟩) len len, l, Env.put_le _ (s.free _ (Nat.le_refl _)), hnew, ?_, .inr ⟨h.length, 0, len, l.flatMap f, by rw [hl1], blkA_new h _, ?_, ?_⟩, ?_, hl2⟩
    · exact .sl (e := ⟨b, o, c.size, P.cellsOf e⟩) (by simp [Env.put]) hle fitcap (fun _ => by simp)
    · rw [List.drop_zero, List.take_of_length_le (by omega)]
    · omega
    · have hel2 : elems.length = len := hel
      have : l.length * P.bytesOf e ≤ (elems.length + rest.length) * P.bytesOf e := Nat.mul_le_mul_right _ (by omega)
      omega
/-- A law's call, off the abstract one. -/
theorem law_calls (c : Ctx) (hm : c.P.follows .mixedOrders = true) (hp : PrimOK c w.heap.size) {f : FuncId} (hpf : c.prim f = none) {args args' : List Value} {h : AHeap} {E : Env}
    (hfw : FW c f args h fun v _ => v = .bool true) (s : Laid c.G w.heap.size E h w) (hargs : LR E args args') :
    Calls c.P f args'.toArray w fun e w' => e = .returned (.bool true) ∧ Go.RowKit.Below w.heap.size w w' := by
  obtain ⟨v, h', he, rfl⟩ := hfw
  refine (law_sim c w.heap.size hm hp hpf he s.sim hargs (fun id h1 _ => s.free id h1)).mono fun e w' ⟨E', v', h1, h2, h3⟩ => ?_
  cases h3
  exact ⟨h1, h2.below s.sim⟩
end
end Go.Abs
/- Abs26: rules to run straight code at once: the heap as a base and what was laid on it, strings as lists of bytes, calls that leave all blocks as they were. Conditions: none. -/
set_option maxRecDepth 100000
namespace Go.Abs
theorem sP_ite {α : Type} {p : Prop} [Decidable p] {v : α} {K : α → Prop} : someP (if p then some v else none) K = (p ∧ K v) := by
  split
  · rename_i h; simp [someP_s, h]
  · rename_i h; simp [someP_n, h]
theorem sP_ite2 {α : Type} {p : Prop} [Decidable p] {v : α} {K : α → Prop} : someP (if p then none else some v) K = (¬ p ∧ K v) := by
  split
  · rename_i h; simp [someP_n, h]
  · rename_i h; simp [someP_s, h]
theorem sP_map {α β : Type} {x : Option α} {f : α → β} {K : β → Prop} : someP (x.map f) K = someP x fun a => K (f a) := propext someP_map
theorem sP_bind {α β : Type} {x : Option α} {f : α → Option β} {K : β → Prop} : someP (x.bind f) K = someP x fun a => someP (f a) K := by
  cases x <;> simp [someP_n, someP_s]
/-! ### the heap as a base and what lies on it -/
def nth : AHeap → Nat → Option Blk
  | [], _ => none
  | some (.cells k) :: _, 0 => some k
  | _ :: _, 0 => none
  | _ :: l, n + 1 => nth l n
theorem nth_eq : ∀ (l : AHeap) (i : Nat), nth l i = blkA l i
  | [], i => by simp [nth, blkA]
  | some (.cells k) :: l, 0 => rfl
  | some (.iter _ _) :: l, 0 => rfl
  | none :: l, 0 => rfl
  | x :: l, i + 1 => by
    have := nth_eq l i
    cases x with
    | none => simpa [nth, blkA] using this
    | some o => cases o <;> simpa [nth, blkA] using this
section
variable {h g X l : AHeap} {i j : Nat} {k : Blk} {x v : Option AObj}
theorem blkA_at : blkA (h ++ X) (h.length + i) = nth X i := by
  rw [nth_eq]; unfold blkA; rw [List.getElem?_append_right (by omega)]; simp
theorem blkA_at0 : blkA (h ++ X) h.length = nth X 0 := blkA_at (i := 0)
theorem nth_0 : nth (some (.cells k) :: l) 0 = some k := rfl
theorem nth_S : nth (x :: l) (i + 1) = nth l i := by
  cases x with
  | none => rfl
  | some o => cases o <;> rfl
theorem nth_g : nth (g ++ l) (g.length + i) = nth l i := by rw [nth_eq, blkA_at]
theorem nth_g0 : nth (g ++ l) g.length = nth l 0 := nth_g (i := 0)
theorem nth_gs {v : Option AObj} : nth (g.set j v ++ l) (g.length + i) = nth l i := by have := nth_g (g := g.set j v) (l := l) (i := i); rwa [List.length_set] at this
theorem nth_gs0 {v : Option AObj} : nth (g.set j v ++ l) g.length = nth l 0 := nth_gs (i := 0)
theorem set_gs {w : Option AObj} : (g.set j w ++ X).set (g.length + i) v = g.set j w ++ X.set i v := by rw [List.set_append_right _ _ (by rw [List.length_set]; omega), List.length_set]; simp
theorem set_gs0 {w : Option AObj} : (g.set j w ++ X).set g.length v = g.set j w ++ X.set 0 v := set_gs (i := 0)
theorem set_at : (h ++ X).set (h.length + i) v = h ++ X.set i v := by rw [List.set_append_right _ _ (by omega)]; simp
theorem set_at0 : (h ++ X).set h.length v = h ++ X.set 0 v := set_at (i := 0)
end
/-- A block of the base is still there. -/
theorem blkA_all {h : AHeap} {b : Nat} {k : Blk} (hb : blkA h b = some k) : ∀ X, blkA (h ++ X) b = some k := fun X => blkA_app X hb
/-! ### loads and stores -/
def loadK : Option Blk → Option Bool → Option Nat → Nat → Option Value
  | some k, some true, some n, o => (takeA k.cells o n).map fun l => .agg l.toArray
  | some k, some false, some _, o => k.cells[o]?
  | _, _, _, _ => none
section
variable {P : Program} {h : AHeap} {t : TypeId} {b o n : Nat} {cs : List Value} {z : Nat} {r : Bool} {K : Value → Prop} {v : Value}
theorem loadA_eq : loadA P h t (.pointer (some ⟨b, o, none⟩)) = loadK (blkA h b) (isAggA P t) (sizeA P t) o := by
  simp only [loadA]
  cases blkA h b with
  | none => simp [loadK]
  | some k =>
    cases isAggA P t with
    | none => simp [loadK]
    | some x => cases x <;> cases sizeA P t <;> simp [loadK]
theorem loadK_1 : loadK (some ⟨cs, z, r⟩) (some false) (some n) o = cs[o]? := rfl
theorem loadK_n : someP (loadK (some ⟨cs, z, r⟩) (some true) (some n) o) K = (o + n ≤ cs.length ∧ K (.agg ((cs.drop o).take n).toArray)) := by
  simp only [loadK, takeA, sP_map, sP_ite]
def storeK (h : AHeap) (b o : Nat) : Option Blk → Option Nat → List Value → Option AHeap
  | some k, some n, vs => if n = vs.length ∧ k.ro = false ∧ o + vs.length ≤ k.cells.length ∧ vs.all oneCellA = true then some (h.set b (some (.cells ⟨putCells k.cells o vs, k.esz, false⟩))) else none
  | _, _, _ => none
theorem storeA_eq : storeA P h t (.pointer (some ⟨b, o, none⟩)) v = storeK h b o (blkA h b) (sizeA P t) v.cells.toList := by
  simp only [storeA, writeA]
  cases blkA h b with
  | none => cases sizeA P t <;> simp [storeK]
  | some k =>
    obtain ⟨cells, esz, ro⟩ := k
    cases sizeA P t with
    | none => simp [storeK]
    | some n =>
      simp only [storeK, Option.some.injEq, Array.length_toList]
      by_cases h1 : n = v.cells.size
      · by_cases h2 : ro = false
        · subst h2; simp [h1]
        · simp [h2]
      · simp [h1]
theorem storeK_s {K : AHeap → Prop} {vs : List Value} : someP (storeK h b o (some ⟨cs, z, false⟩) (some n) vs) K = ((n = vs.length ∧ o + vs.length ≤ cs.length ∧ vs.all oneCellA = true) ∧ K (h.set b (some (.cells ⟨putCells cs o vs, z, false⟩)))) := by
  simp only [storeK, sP_ite, true_and]
theorem put_n : putCells cs o [] = cs := rfl
theorem put_c {vs : List Value} : putCells cs o (v :: vs) = putCells (cs.set o v) (o + 1) vs := rfl
end
section
variable {q : IntKind} {i : Int} {s : ByteArray} {t : Bool} {a : Option Addr} {n m : Nat} {l xs cs : List Value} {fn : Fn} {x c : Array Value} {v : Value}
theorem c_int : (Value.int q i).cells = #[.int q i] := rfl
theorem c_str : (Value.string s).cells = #[.string s] := rfl
theorem c_bool : (Value.bool t).cells = #[.bool t] := rfl
theorem c_ptr : (Value.pointer a).cells = #[.pointer a] := rfl
theorem c_sl : (Value.slice a n m).cells = #[.slice a n m] := rfl
theorem c_fn : (Value.func fn x c).cells = #[.func fn x c] := rfl
theorem c_nf : Value.nilFunc.cells = #[.nilFunc] := rfl
theorem c_ni : Value.nilIface.cells = #[.nilIface] := rfl
theorem c_agg : (Value.agg x).cells = x := rfl
theorem o_int : oneCellA (.int q i) = true := rfl
theorem o_str : oneCellA (.string s) = true := rfl
theorem o_bool : oneCellA (.bool t) = true := rfl
theorem o_ptr : oneCellA (.pointer a) = true := rfl
theorem o_sl : oneCellA (.slice a n m) = true := rfl
theorem o_fn : oneCellA (.func fn x c) = true := rfl
theorem o_nf : oneCellA .nilFunc = true := rfl
theorem o_ni : oneCellA .nilIface = true := rfl
theorem all_n : ([] : List Value).all oneCellA = true := rfl
theorem all_c : (v :: l).all oneCellA = (oneCellA v && l.all oneCellA) := rfl
theorem all_a : (l ++ xs).all oneCellA = (l.all oneCellA && xs.all oneCellA) := List.all_append
end
/-! ### values that are built -/
def fillL (place : Nat → Option (Nat × Nat)) (cells : List Value) : List (Nat × Value) → Option (List Value)
  | [] => some cells
  | (i, v) :: rest => match place i with
    | none => none
    | some (off, size) => if v.cells.toList.length = size ∧ off + v.cells.toList.length ≤ cells.length then fillL place (putCells cells off v.cells.toList) rest else none
theorem fold_putCells : ∀ (vs : List Value) (off k : Nat) (cells : Array Value), ((vs.zipIdx k).foldl (fun cs (x : Value × Nat) => cs.setIfInBounds (off + x.2) x.1) cells) = (putCells cells.toList (off + k) vs).toArray
  | [], off, k, cells => by simp [putCells]
  | v :: vs, off, k, cells => by
    simp only [List.zipIdx_cons, List.foldl_cons, putCells]
    rw [fold_putCells vs off (k + 1)]
    simp [Nat.add_assoc]
theorem fill_eq (place : Nat → Option (Nat × Nat)) : ∀ (ps : List (Nat × Value)) (cells : List Value), Instr.fill place cells.toArray ps = (fillL place cells ps).map List.toArray
  | [], cells => rfl
  | (i, v) :: ps, cells => by
    simp only [Instr.fill, fillL]
    cases place i with
    | none => rfl
    | some os =>
      obtain ⟨off, size⟩ := os
      simp only
      have e : v.cells.zipIdx.foldl (fun cs (x : Value × Nat) => cs.setIfInBounds (off + x.2) x.1) cells.toArray = (putCells cells off v.cells.toList).toArray := by
        rw [← Array.foldl_toList, Array.toList_zipIdx, fold_putCells]; simp
      by_cases hc : v.cells.size = size ∧ off + v.cells.size ≤ cells.length
      · have h1 : ¬ ((decide (v.cells.size ≠ size) || decide (off + v.cells.size > cells.toArray.size)) = true) := by simp [hc.1]; omega
        rw [if_neg h1, if_pos (by simpa using hc), ← fill_eq place ps]
        exact congrArg (fun x => Instr.fill place x ps) e
      · have h1 : ((decide (v.cells.size ≠ size) || decide (off + v.cells.size > cells.toArray.size)) = true) := by simp; omega
        rw [if_pos h1, if_neg (by simpa using hc)]
        rfl
def placesA (P : Program) (t : TypeId) : Option (List (Nat × Nat)) :=
  match P.underlying t with
  | some (.struct fs) => fs.toList.mapM fun f => (sizeA P f.type).map fun n => (f.offset, n)
  | _ => none
def sliceT : Option TypeDesc → Option TypeId
  | some (.slice e) => some e
  | _ => none
def structT : Option TypeDesc → Bool
  | some (.struct _) => true
  | _ => false
section
variable {P : Program} {h : AHeap} {t : TypeId} {parts : List (Nat × Value)} {K : Value → Prop} {K2 : Value × AHeap → Prop} {place : Nat → Option (Nat × Nat)} {cells : List Value} {i : Nat} {v : Value}
theorem build_s (hs : structT (P.underlying t) = true) : someP (buildA P t parts) K = someP (zeroA P t) fun z => someP (placesA P t) fun pl => someP (fillL (fun i => pl[i]?) z parts) fun l => K (.agg l.toArray) := by
  have key : buildA P t parts = (zeroA P t).bind fun z => (placesA P t).bind fun pl => (Instr.fill (fun i => pl[i]?) z.toArray parts).map .agg := by
    cases hu : P.underlying t with
    | none => rw [hu] at hs; simp [structT] at hs
    | some d =>
      cases d with
      | struct fs =>
        cases hz : zeroA P t with
        | none => unfold buildA; rw [hu, hz]; rfl
        | some z =>
          show _ = (placesA P t).bind _
          unfold buildA placesA
          rw [hu, hz]
          simp only
          split
          · rename_i h; rw [h]; rfl
          · rename_i h; rw [h]; rfl
      | _ => rw [hu] at hs; simp [structT] at hs
  rw [key, sP_bind]
  congr 1
  funext z
  rw [sP_bind]
  congr 1
  funext pl
  rw [sP_map, fill_eq, sP_map]
theorem fillL_n : fillL place cells [] = some cells := rfl
theorem fillL_c {K : List Value → Prop} : someP (fillL place cells ((i, v) :: parts)) K = someP (place i) fun p => (v.cells.toList.length = p.2 ∧ p.1 + v.cells.toList.length ≤ cells.length) ∧ someP (fillL place (putCells cells p.1 v.cells.toList) parts) K := by
  simp only [fillL]
  cases place i with
  | none => simp [someP_n]
  | some p =>
    simp only [someP_s]
    split
    · rename_i hh; exact propext ⟨fun x => ⟨hh, x⟩, fun x => x.2⟩
    · rename_i hh; simp only [someP_n, hh, false_and]
theorem bslice {len : Nat} : someP (buildSliceA P t len parts h) K2 = someP (sliceT (P.underlying t)) fun e => someP (sizeA P e) fun size => someP (zeroA P e) fun z => (len * size ≤ 16777216 ∧ z.length = size ∧ 0 < size) ∧
    someP (fillL (fun i => some (i * size, size)) (repCells z len) parts) fun cells => cells.all oneCellA = true ∧ K2 (.slice (some ⟨h.length, 0, none⟩) len len, h ++ [some (.cells ⟨cells, size, false⟩)]) := by
  unfold buildSliceA
  cases hu : P.underlying t with
  | none => simp [someP_n, sliceT]
  | some d =>
    cases d with
    | slice e =>
      simp only [sliceT, someP_s]
      cases sizeA P e with
      | none => simp [someP_n]
      | some size =>
        cases zeroA P e with
        | none => simp [someP_n, someP_s]
        | some z =>
          simp only [someP_s]
          split
          · rename_i hc
            rw [fill_eq]
            cases fillL (fun i => some (i * size, size)) (repCells z len) parts with
            | none => simp [someP_n]
            | some cells =>
              simp only [Option.map_some, someP_s, newA, sP_ite, hc]
              simp
          · rename_i hc; simp [someP_n, hc]
    | _ => simp [someP_n, sliceT]
theorem mslice {q q' : IntKind} {n m : Int} : someP (makeSliceA P t (.int q n) (.int q' m) h) K2 = someP (sliceT (P.underlying t)) fun e => someP (sizeA P e) fun size => someP (zeroA P e) fun z => someP (bytesA P e) fun by_ =>
    (0 ≤ n ∧ n ≤ m ∧ m * by_ ≤ 281474976710656 ∧ m ≤ 9223372036854775807 ∧ z.length = size ∧ 0 < size) ∧ K2 (.slice (some ⟨h.length, 0, none⟩) n.toNat n.toNat, h ++ [some (.cells ⟨repCells z n.toNat, size, false⟩)]) := by
  unfold makeSliceA
  cases hu : P.underlying t with
  | none => simp [someP_n, sliceT]
  | some d =>
    cases d with
    | slice e =>
      simp only [sliceT, someP_s]
      cases sizeA P e <;> cases zeroA P e <;> cases bytesA P e <;> simp [someP_n, someP_s, sP_ite, newA]
    | _ => simp [someP_n, sliceT]
end
/-! ### append -/
section
variable {P : Program} {h : AHeap} {t : TypeId} {x : Value} {K2 : Value × AHeap → Prop} {b o n m : Nat}
theorem app_nil : someP (appendA P t (.slice none 0 0) x h) K2 = someP (sliceT (P.underlying t)) fun e => someP (sizeA P e) fun size => someP (zeroA P e) fun z => someP (bytesA P e) fun by_ => (z.length = size ∧ 0 < size) ∧
    someP (moreA h size x) fun r => if r.2 = 0 then K2 (.slice none 0 0, h) else (r.2 * by_ ≤ 140737488355328 ∧ r.2 ≤ 9223372036854775807) ∧ K2 (.slice (some ⟨h.length, 0, none⟩) r.2 r.2, h ++ [some (.cells ⟨r.1, size, false⟩)]) := by
  unfold appendA
  cases hu : P.underlying t with
  | none => simp [someP_n, sliceT]
  | some d =>
    cases d with
    | slice e =>
      simp only [sliceT, someP_s]
      cases sizeA P e with
      | none => simp [someP_n]
      | some size =>
        cases zeroA P e with
        | none => simp [someP_n, someP_s]
        | some z =>
          cases bytesA P e with
          | none => simp [someP_n, someP_s]
          | some by_ =>
            simp only [someP_s]
            split
            · rename_i hc
              cases moreA h size x with
              | none => simp [someP_n]
              | some r =>
                obtain ⟨new, k⟩ := r
                simp only [someP_s, hc, newA]
                split
                · simp [someP_s]
                · simp [sP_ite]
            · rename_i hc; simp [someP_n, hc]
    | _ => simp [someP_n, sliceT]
theorem app_some : someP (appendA P t (.slice (some ⟨b, o, none⟩) n m) x h) K2 = someP (sliceT (P.underlying t)) fun e => someP (sizeA P e) fun size => someP (zeroA P e) fun z => someP (bytesA P e) fun by_ => (z.length = size ∧ 0 < size) ∧
    someP (moreA h size x) fun r => if r.2 = 0 then K2 (.slice (some ⟨b, o, none⟩) n m, h) else someP (blkA h b) fun k => (k.ro = false ∧ k.esz = size ∧ (n + r.2) * by_ ≤ 140737488355328 ∧ n + r.2 ≤ 9223372036854775807 ∧ r.1.all oneCellA = true) ∧
      someP (takeA k.cells o (n * size)) fun old => K2 (.slice (some ⟨h.length, 0, none⟩) (n + r.2) (n + r.2), h.set b none ++ [some (.cells ⟨old ++ r.1, size, false⟩)]) := by
  unfold appendA
  cases hu : P.underlying t with
  | none => simp [someP_n, sliceT]
  | some d =>
    cases d with
    | slice e =>
      simp only [sliceT, someP_s]
      cases sizeA P e with
      | none => simp [someP_n]
      | some size =>
        cases zeroA P e with
        | none => simp [someP_n, someP_s]
        | some z =>
          cases bytesA P e with
          | none => simp [someP_n, someP_s]
          | some by_ =>
            simp only [someP_s]
            split
            · rename_i hc
              cases moreA h size x with
              | none => simp [someP_n]
              | some r =>
                obtain ⟨new, j⟩ := r
                simp only [someP_s, hc, newA]
                split
                · simp [someP_s]
                · cases blkA h b with
                  | none => simp [someP_n]
                  | some k =>
                    simp only [someP_s]
                    split
                    · rename_i hk
                      cases takeA k.cells o (n * size) with
                      | none => simp [someP_n]
                      | some old => simp only [someP_s, List.length_set, hk, and_self, true_and]
                    · rename_i hk; simp only [someP_n, hk, false_and, and_false]
            · rename_i hc; simp [someP_n, hc]
    | _ => simp [someP_n, sliceT]
theorem app_type {d : TypeDesc} {p : Prop} : ((match (some d : Option TypeDesc) with | some (.int _) => False | some _ => True | none => False) ∧ p) = ((match d with | .int _ => False | _ => True) ∧ p) := by cases d <;> rfl
theorem more_str {size : Nat} {s : ByteArray} : moreA h size (.string s) = if size = 1 then some (bytesV s, s.size) else none := rfl
theorem more_nil {size : Nat} {K : List Value × Nat → Prop} : someP (moreA h size (.slice none 0 0)) K = K ([], 0) := by simp [moreA, sliceCells, someP_s]
theorem more_some {size : Nat} {K : List Value × Nat → Prop} : someP (moreA h size (.slice (some ⟨b, o, none⟩) n m)) K = someP (blkA h b) fun k => someP (takeA k.cells o (n * size)) fun l => K (l, n) := by
  simp only [moreA, sliceCells]
  cases blkA h b <;> simp [someP_n, someP_s, sP_map]
theorem takeA_eq {l : List Value} {K : List Value → Prop} : someP (takeA l o n) K = (o + n ≤ l.length ∧ K ((l.drop o).take n)) := by simp only [takeA, sP_ite]
end
/-! ### strings -/
def str (l : List UInt8) : ByteArray := ⟨l.toArray⟩
theorem str_mk (l : List UInt8) : ByteArray.mk l.toArray = str l := rfl
theorem str_of (s : ByteArray) : ∃ l, s = str l ∧ l.length = s.size := ⟨s.data.toList, by cases s; rfl, rfl⟩
section
variable {P : Program} {h : AHeap} {t u : TypeId} {a c l : List UInt8} {K : Value → Prop} {lo hi : Option Value} {q q' : IntKind} {i j : Int} {n b o m : Nat} {cx cy : Bool}
theorem str_size : (str l).size = l.length := by simp [str, ByteArray.size]
theorem str_data : (str l).data.toList = l := by simp [str]
theorem str_inj : (str a = str c) = (a = c) := propext ⟨fun hh => by have := congrArg (fun x => x.data.toList) hh; simpa [str] using this, fun hh => by rw [hh]⟩
theorem str_app : str a ++ str c = str (a ++ c) := by
  apply ByteArray.ext
  simp [str, ByteArray.data_append]
theorem str_ext : (str l).extract n m = str ((l.drop n).take (m - n)) := by
  apply ByteArray.ext
  simp [str, ByteArray.data_extract]
theorem ss_add : someP (binA P .add t cx cy (.string (str a)) (.string (str c))) K = (a.length + c.length ≤ 9223372036854775807 ∧ K (.string (str (a ++ c)))) := by
  rw [s_add, sP_ite, str_size, str_size, str_app]
theorem ss_eql : binA P .eql t cx cy (.string (str a)) (.string (str c)) = some (.bool (decide (a = c))) := by rw [s_eql]; simp only [str_inj]
theorem ss_neq : binA P .neq t cx cy (.string (str a)) (.string (str c)) = some (.bool (decide (a ≠ c))) := by rw [s_neq]; simp only [ne_eq, str_inj]
theorem bd_nn {K : Nat × Nat → Prop} : someP (boundsA n none none) K = K (0, n) := by simp [boundsA, boundA, someP_s]
theorem bd_ni {K : Nat × Nat → Prop} : someP (boundsA n none (some (.int q j))) K = ((0 ≤ j ∧ j ≤ n) ∧ K (0, j.toNat)) := by
  simp only [boundsA, boundA]
  by_cases h1 : 0 ≤ j
  · by_cases h2 : j ≤ n
    · rw [if_pos h1]; simp only [Nat.zero_le, true_and]; rw [if_pos (by omega)]; simp [someP_s, h1, h2]
    · rw [if_pos h1]; simp only [Nat.zero_le, true_and]; rw [if_neg (by omega)]; simp [someP_n, h2]
  · rw [if_neg h1]; simp [someP_n, h1]
theorem bd_in {K : Nat × Nat → Prop} : someP (boundsA n (some (.int q i)) none) K = ((0 ≤ i ∧ i ≤ n) ∧ K (i.toNat, n)) := by
  simp only [boundsA, boundA]
  by_cases h1 : 0 ≤ i
  · by_cases h2 : i ≤ n
    · rw [if_pos h1]; simp only [Nat.le_refl, and_true]; rw [if_pos (by omega)]; simp [someP_s, h1, h2]
    · rw [if_pos h1]; simp only [Nat.le_refl, and_true]; rw [if_neg (by omega)]; simp [someP_n, h2]
  · rw [if_neg h1]; simp [someP_n, h1]
theorem bd_ii {K : Nat × Nat → Prop} : someP (boundsA n (some (.int q i)) (some (.int q' j))) K = ((0 ≤ i ∧ i ≤ j ∧ j ≤ n) ∧ K (i.toNat, j.toNat)) := by
  simp only [boundsA, boundA]
  by_cases h1 : 0 ≤ i
  · by_cases h2 : 0 ≤ j
    · rw [if_pos h1, if_pos h2]
      simp only
      by_cases h3 : i ≤ j ∧ j ≤ n
      · rw [if_pos (by omega)]; simp [someP_s, h1, h3]
      · rw [if_neg (by omega)]; simp only [someP_n, h1, h3, and_false, false_and]
    · rw [if_pos h1, if_neg h2]
      have : ¬ (0 ≤ i ∧ i ≤ j ∧ j ≤ n) := by omega
      simp only [someP_n, this, false_and]
  · rw [if_neg h1]; simp [someP_n, h1]
theorem slice_str (hu : P.underlying t = some .string) : someP (sliceA P t (.string (str l)) lo hi h) K = someP (boundsA l.length lo hi) fun p => K (.string (str ((l.drop p.1).take (p.2 - p.1)))) := by
  simp only [sliceA, hu, sP_map, str_size, str_ext]
theorem index_str (hu : P.underlying t = some .string) : someP (indexA P t (.string (str l)) (.int q i)) K = ((0 ≤ i ∧ i < l.length) ∧ K (.int .u8 ((l[i.toNat]?).getD 0).toNat)) := by
  simp only [indexA, hu]
  by_cases h1 : 0 ≤ i
  · rw [if_pos h1]
    have e : (str l).data[i.toNat]? = l[i.toNat]? := by simp [str]
    rw [e]
    by_cases h2 : i < l.length
    · rw [List.getElem?_eq_getElem (by omega)]; simp [someP_s, h1, h2]
    · rw [List.getElem?_eq_none (by omega)]; simp [someP_n, h2]
  · rw [if_neg h1]; simp [someP_n, h1]
theorem len_str (hu : P.underlying t = some .string) : lenA P t (.string (str l)) = some (.int .i64 l.length) := by simp [lenA, hu, str_size]
theorem len_sl {e : TypeId} (hu : sliceT (P.underlying t) = some e) {ad : Option Addr} : lenA P t (.slice ad n m) = some (.int .i64 n) := by
  unfold lenA
  cases hd : P.underlying t with
  | none => rw [hd] at hu; simp [sliceT] at hu
  | some d => cases d <;> first | rfl | (rw [hd] at hu; simp [sliceT] at hu)
/-- len of a slice, its type looked at by simp. -/
theorem len_sl' {ad : Option Addr} : someP (lenA P t (.slice ad n m)) K = match P.underlying t with | some (.slice _) => K (.int .i64 n) | some (.array k _) => K (.int .i64 k) | _ => False := by
  unfold lenA
  cases hd : P.underlying t with
  | none => simp [someP_n]
  | some d => cases d <;> simp [someP_n, someP_s]
theorem cv_sb {K2 : Value × AHeap → Prop} (ht : P.underlying t = some .string) : someP (convA P t u (.string (str l)) h) K2 = match P.underlying u with
    | some .string => K2 (.string (str l), h)
    | some (.slice e) => (isU8 P e = true ∧ sizeA P e = some 1) ∧ K2 (.slice (some ⟨h.length, 0, none⟩) l.length l.length, h ++ [some (.cells ⟨l.map byteV, 1, false⟩)])
    | _ => False := by
  unfold convA
  rw [ht]
  cases P.underlying u with
  | none => simp [someP_n]
  | some d =>
    have e : bytesV (str l) = l.map byteV := by rw [bytesV_map, str_data]
    cases d <;> simp [someP_n, someP_s, sP_ite, newA, str_size, e]
theorem cv_bs {K2 : Value × AHeap → Prop} {e : TypeId} (hu : P.underlying u = some .string) (ht : P.underlying t = some (.slice e)) (he : isU8 P e = true) : someP (convA P t u (.slice (some ⟨b, o, none⟩) n m) h) K2 = someP (blkA h b) fun k => someP (takeA k.cells o n) fun cs => someP (strOf cs) fun r => K2 (.string (str r), h) := by
  unfold convA
  rw [ht, hu]
  simp only [he, if_true, sliceCells, Nat.mul_one]
  cases blkA h b with
  | none => simp [someP_n]
  | some k =>
    simp only [someP_s]
    cases takeA k.cells o n with
    | none => simp [someP_n]
    | some cs => cases hs : strOf cs <;> simp [someP_n, someP_s, str, hs]
end
theorem cv_ss {P : Program} {h : AHeap} {t e : TypeId} {b o n m : Nat} {K2 : Value × AHeap → Prop} (ht : P.underlying t = some (.slice e)) (he : isU8 P e = true) : someP (convA P t t (.slice (some ⟨b, o, none⟩) n m) h) K2 = someP (blkA h b) fun k => k.ro = false ∧ K2 (.slice (some ⟨b, o, none⟩) n m, h) := by
  unfold convA
  rw [ht]
  simp only [he, and_self, if_true]
  cases blkA h b with
  | none => simp [someP_n]
  | some k => cases hr : k.ro <;> simp [someP_n, someP_s, hr]
theorem takeMap {α β : Type} (f : α → β) (l : List α) : (l.map f).take l.length = l.map f := List.take_of_length_le (by rw [List.length_map]; exact Nat.le_refl _)
theorem takeDrop {α : Type} (l : List α) (n : Nat) : (l.drop n).take (l.length - n) = l.drop n := List.take_of_length_le (by rw [List.length_drop]; exact Nat.le_refl _)
theorem takeAll {α : Type} (l : List α) : l.take l.length = l := List.take_length
theorem cast0 : ((0 : Nat) : Int) = 0 := rfl
theorem cast1 : ((1 : Nat) : Int) = 1 := rfl
theorem rep0 (z : List Value) : repCells z 0 = [] := rfl
theorem rep1 (z : List Value) : repCells z 1 = z := List.append_nil z
theorem rep2 (z : List Value) : repCells z 2 = z ++ z := by simp [repCells]
theorem rep3 (z : List Value) : repCells z 3 = z ++ (z ++ z) := by simp [repCells]
theorem rep4 (z : List Value) : repCells z 4 = z ++ (z ++ (z ++ z)) := by simp [repCells]
theorem bytesV_str (l : List UInt8) : bytesV (str l) = l.map byteV := by rw [bytesV_map, str_data]
theorem byteV_one (b : UInt8) : oneCellA (byteV b) = true := rfl
theorem all_byteV (l : List UInt8) : (l.map byteV).all oneCellA = true := by
  refine List.all_eq_true.2 fun v hv => ?_
  obtain ⟨b, _, rfl⟩ := List.mem_map.1 hv
  rfl
/-! ### places in slices -/
section
variable {P : Program} {h : AHeap} {t : TypeId} {K : Value → Prop} {q : IntKind} {i : Int} {n b o m : Nat}
theorem idx_sl : someP (indexAddrA P t (.slice (some ⟨b, o, none⟩) n m) (.int q i)) K = someP (sliceT (P.underlying t)) fun e => someP (sizeA P e) fun z => (0 ≤ i ∧ i < n) ∧ K (.pointer (some ⟨b, o + i.toNat * z, none⟩)) := by
  unfold indexAddrA
  cases P.underlying t with
  | none => simp [someP_n, sliceT]
  | some d =>
    cases d with
    | slice e => simp only [sliceT, someP_s]; cases sizeA P e <;> simp [someP_n, someP_s, sP_ite]
    | _ => simp [someP_n, sliceT]
theorem idx_arr {e : TypeId} (hu : P.underlying t = some (.array n e)) : someP (indexAddrA P t (.pointer (some ⟨b, o, none⟩)) (.int q i)) K = someP (sizeA P e) fun z => (0 ≤ i ∧ i < n) ∧ K (.pointer (some ⟨b, o + i.toNat * z, none⟩)) := by
  unfold indexAddrA
  rw [hu]
  simp only
  cases sizeA P e <;> simp [someP_n, someP_s, sP_ite]
theorem slT {e : TypeId} : sliceT (some (.slice e)) = some e := rfl
theorem stT {fs : Array Field} : structT (some (.struct fs)) = true := rfl
theorem part_1 {u : TypeId} {cs : List Value} {off : Nat} (ha : isAggA P u = some false) : someP (partA P u cs.toArray off) K = ((sizeA P u).isSome = true ∧ someP (cs[off]?) K) := by
  unfold partA
  rw [ha]
  cases sizeA P u <;> simp [someP_n]
theorem part_n {u : TypeId} {cs : List Value} {off : Nat} (ha : isAggA P u = some true) : someP (partA P u cs.toArray off) K = someP (sizeA P u) fun n => K (.agg ((cs.drop off).take n).toArray) := by
  unfold partA
  rw [ha]
  cases sizeA P u with
  | none => simp [someP_n]
  | some n => simp [someP_s]
end
/-! ### slices as lists -/
def SlA {α : Type} (f : α → List Value) (sz : Nat) (ro : Bool) (h : AHeap) (a : Option Addr) (l : List α) : Prop :=
  (a = none ∧ l = []) ∨ ∃ b o cells, a = some ⟨b, o, none⟩ ∧ blkA h b = some ⟨cells, sz, ro⟩ ∧ (cells.drop o).take (l.length * sz) = l.flatMap f ∧ o + l.length * sz ≤ cells.length
theorem Sl.split {α : Type} {f : α → List Value} {sz : Nat} {ro : Bool} {h : AHeap} {v : Value} {l : List α} (s : Sl f sz ro h v l) : ∃ a m, v = .slice a l.length m ∧ (a = none → m = 0) ∧ SlA f sz ro h a l := by
  rcases s with ⟨rfl, rfl⟩ | ⟨b, o, m, cells, h1, h2, h3, h4⟩
  · exact ⟨none, 0, rfl, fun _ => rfl, .inl ⟨rfl, rfl⟩⟩
  · exact ⟨some ⟨b, o, none⟩, m, h1, fun hh => (by cases hh), .inr ⟨b, o, cells, rfl, h2, h3, h4⟩⟩
section
variable {α : Type} {f : α → List Value} {sz : Nat} {ro : Bool} {h : AHeap} {a : Option Addr} {l : List α} {P : Program}
theorem SlA.sl (s : SlA f sz ro h a l) {m : Nat} (hm : a = none → m = 0) : Sl f sz ro h (.slice a l.length m) l := by
  rcases s with ⟨rfl, rfl⟩ | ⟨b, o, cells, rfl, h2, h3, h4⟩
  · exact .inl ⟨by rw [hm rfl]; rfl, rfl⟩
  · exact .inr ⟨b, o, m, cells, rfl, h2, h3, h4⟩
theorem SlA.mono {h' : AHeap} (s : SlA f sz ro h a l) (e : Ext h h') : SlA f sz ro h' a l := by
  rcases s with s | ⟨b, o, cells, h1, h2, h3⟩
  · exact .inl s
  · exact .inr ⟨b, o, cells, h1, e.blk h2, h3⟩
theorem SlA.nil {h : AHeap} : SlA f sz ro h none ([] : List α) := .inl ⟨rfl, rfl⟩
theorem SlA.app (s : SlA f sz ro h a l) (X : AHeap) : SlA f sz ro (h ++ X) a l := s.mono (.app h X)
/-- An element of a slice: where it lies, what a load brings. -/
theorem SlA.at (s : SlA f sz ro h a l) (hf : ∀ x, (f x).length = sz) {i : Nat} {x : α} (hx : l[i]? = some x) {e : TypeId} (ha : isAggA P e = some true) (hs : sizeA P e = some sz) :
    ∃ b o, a = some ⟨b, o, none⟩ ∧ ∀ X, loadA P (h ++ X) e (.pointer (some ⟨b, o + i * sz, none⟩)) = some (.agg (f x).toArray) := by
  have hlt := (List.getElem?_eq_some_iff.1 hx).1
  rcases s with ⟨_, rfl⟩ | ⟨b, o, cells, rfl, h2, h3, h4⟩
  · simp at hx
  · refine ⟨b, o, rfl, fun X => ?_⟩
    have hc := flatMap_chunk hf l i x hx
    rw [← h3, List.drop_take, List.take_take, List.drop_drop] at hc
    have hle : (i + 1) * sz ≤ l.length * sz := Nat.mul_le_mul_right _ hlt
    rw [Nat.add_mul, Nat.one_mul] at hle
    rw [Nat.min_eq_left (by omega)] at hc
    rw [loadN ha hs (blkA_app X h2) (by simp only; omega)]
    rw [hc]
/-- The same, an element of one cell. -/
theorem SlA.at1 (s : SlA f 1 ro h a l) {g : α → Value} (hf : ∀ x, f x = [g x]) {i : Nat} {x : α} (hx : l[i]? = some x) {e : TypeId} (ha : isAggA P e = some false) (hs : sizeA P e = some 1) :
    ∃ b o, a = some ⟨b, o, none⟩ ∧ ∀ X, loadA P (h ++ X) e (.pointer (some ⟨b, o + i * 1, none⟩)) = some (g x) := by
  have hlt := (List.getElem?_eq_some_iff.1 hx).1
  rcases s with ⟨_, rfl⟩ | ⟨b, o, cells, rfl, h2, h3, h4⟩
  · simp at hx
  · refine ⟨b, o, rfl, fun X => ?_⟩
    have hc := flatMap_chunk (sz := 1) (f := f) (fun x => by rw [hf]; rfl) l i x hx
    rw [← h3, List.drop_take, List.take_take, List.drop_drop, hf] at hc
    rw [Nat.min_eq_left (by omega)] at hc
    rw [load1 ha hs (blkA_app X h2)]
    simp only
    have h5 : ((cells.drop (o + i * 1)).take 1)[0]? = some (g x) := by rw [hc]; rfl
    rwa [List.getElem?_take_of_lt (by omega), List.getElem?_drop, Nat.add_zero] at h5
/-- An element of a slice: its block, its cells. -/
theorem SlA.get (s : SlA f sz ro h a l) (hf : ∀ x, (f x).length = sz) {i : Nat} {x : α} (hx : l[i]? = some x) :
    ∃ b o cells, a = some ⟨b, o, none⟩ ∧ blkA h b = some ⟨cells, sz, ro⟩ ∧ (∀ X, blkA (h ++ X) b = some ⟨cells, sz, ro⟩) ∧ o + i * sz + sz ≤ cells.length ∧ (cells.drop (o + i * sz)).take sz = f x := by
  have hlt := (List.getElem?_eq_some_iff.1 hx).1
  rcases s with ⟨_, rfl⟩ | ⟨b, o, cells, rfl, h2, h3, h4⟩
  · simp at hx
  · have hc := flatMap_chunk hf l i x hx
    rw [← h3, List.drop_take, List.take_take, List.drop_drop] at hc
    have hle : (i + 1) * sz ≤ l.length * sz := Nat.mul_le_mul_right _ hlt
    rw [Nat.add_mul, Nat.one_mul] at hle
    rw [Nat.min_eq_left (by omega)] at hc
    exact ⟨b, o, cells, rfl, h2, fun X => blkA_app X h2, by omega, hc⟩
/-- The same, an element of one cell. -/
theorem SlA.get1 (s : SlA f 1 ro h a l) {g : α → Value} (hf : ∀ x, f x = [g x]) {i : Nat} {x : α} (hx : l[i]? = some x) :
    ∃ b o cells, a = some ⟨b, o, none⟩ ∧ blkA h b = some ⟨cells, 1, ro⟩ ∧ (∀ X, blkA (h ++ X) b = some ⟨cells, 1, ro⟩) ∧ o + i < cells.length ∧ cells[o + i]? = some (g x) := by
  obtain ⟨b, o, cells, h1, h2, h3, h4, h5⟩ := s.get (fun x => by rw [hf]; rfl) hx
  refine ⟨b, o, cells, h1, h2, h3, by omega, ?_⟩
  rw [Nat.mul_one, hf] at h5
  have h6 : ((cells.drop (o + i)).take 1)[0]? = some (g x) := by rw [h5]; rfl
  rwa [List.getElem?_take_of_lt (by omega), List.getElem?_drop, Nat.add_zero] at h6
def subA (a : Option Addr) (i sz : Nat) : Option Addr := a.map fun x => ⟨x.block, x.off + i * sz, x.spot⟩
theorem SlA.sub (s : SlA f sz ro h a l) (hf : ∀ x, (f x).length = sz) {i j : Nat} (hij : i ≤ j) (hj : j ≤ l.length) : SlA f sz ro h (subA a i sz) ((l.drop i).take (j - i)) := by
  rcases s with ⟨rfl, rfl⟩ | ⟨b, o, cells, rfl, h2, h3, h4⟩
  · exact .inl ⟨rfl, by simp⟩
  · refine .inr ⟨b, o + i * sz, cells, rfl, h2, ?_, ?_⟩
    · have e1 : l = l.take i ++ l.drop i := (List.take_append_drop i l).symm
      have e2 : (l.flatMap f).drop (i * sz) = (l.drop i).flatMap f := by
        conv => lhs; rw [e1, List.flatMap_append]
        have := flatMap_len hf (l.take i)
        rw [List.length_take, Nat.min_eq_left (by omega)] at this
        rw [List.drop_append, List.drop_of_length_le (by omega), this, Nat.sub_self]
        simp
      have e3 : ∀ (m : List α) (k : Nat), k ≤ m.length → (m.flatMap f).take (k * sz) = (m.take k).flatMap f := by
        intro m k hk
        have e4 : m = m.take k ++ m.drop k := (List.take_append_drop k m).symm
        conv => lhs; rw [e4, List.flatMap_append]
        have := flatMap_len hf (m.take k)
        rw [List.length_take, Nat.min_eq_left hk] at this
        rw [List.take_append_of_le_length (by omega), List.take_of_length_le (by omega)]
      have e5 : ((l.drop i).take (j - i)).length = j - i := by simp; omega
      rw [e5, ← e3 _ _ (by simp; omega), ← e2, ← h3, List.drop_take, List.take_take, List.drop_drop]
      congr 1
      have : i * sz + (j - i) * sz ≤ l.length * sz := by rw [← Nat.add_mul]; exact Nat.mul_le_mul_right _ (by omega)
      omega
    · have : i * sz + (j - i) * sz ≤ l.length * sz := by rw [← Nat.add_mul]; exact Nat.mul_le_mul_right _ (by omega)
      simp only [List.length_take, List.length_drop]
      rw [Nat.min_eq_left (by omega)]
      omega
/-- Slicing a slice. -/
theorem SlA.slice (s : SlA f sz ro h a l) {t e : TypeId} (hu : P.underlying t = some (.slice e)) (hs : sizeA P e = some sz) {m : Nat} (hm : a = none → m = 0) {lo hi : Option Value} {K : Value → Prop} (X : AHeap) :
    someP (sliceA P t (.slice a l.length m) lo hi (h ++ X)) K = someP (boundsA l.length lo hi) fun p => K (.slice (subA a p.1 sz) (p.2 - p.1) (p.2 - p.1)) := by
  rcases s with ⟨rfl, rfl⟩ | ⟨b, o, cells, rfl, h2, h3, h4⟩
  · obtain rfl := hm rfl
    simp only [sliceA, hu, hs, List.length_nil]
    cases hb : boundsA 0 lo hi with
    | none => simp [someP_n]
    | some p =>
      obtain ⟨x, y⟩ := p
      have : y = 0 ∧ x = 0 := by
        unfold boundsA at hb
        split at hb
        · split at hb
          · rename_i hc; simp only [Option.some.injEq, Prod.mk.injEq] at hb; omega
          · cases hb
        · cases hb
      obtain ⟨rfl, rfl⟩ := this
      simp [someP_s, subA]
  · simp only [sliceA, hu, hs, blkA_app X h2]
    cases hb : boundsA l.length lo hi with
    | none => simp [someP_n]
    | some p => simp [someP_s, subA]
end
/-! ### one heap begins with another -/
def pre (X Y : AHeap) : Prop := ∃ g, Y = X ++ g
section
variable {X Y g : AHeap} {x : Option AObj} {op : Op} {m : Bool} {p : Prop}
theorem pre_n : pre [] Y = True := by simp [pre]
theorem pre_c : pre (x :: X) (x :: Y) = pre X Y := by simp [pre]
theorem pre_a : pre (g ++ X) (g ++ Y) = pre X Y := by simp [pre, List.append_assoc]
theorem pre_g : pre g (g ++ Y) = True := by simp [pre]
theorem pre_r : pre g g = True := by simp [pre]
theorem DQ_m (h : m = true) : DQ op m X Y p = p := by rw [h]; exact DQ_mut
theorem DQ_pre (h : pre X Y) : DQ op m X Y p = p := by obtain ⟨g, rfl⟩ := h; exact DQ_app
end
/-! ### shifts and bits by constants -/
section
variable {P : Program} {t : TypeId} {cx cy : Bool} {q : IntKind} {x : Nat}
theorem shl_1 (h : x * 2 < 9223372036854775808) : binA P .shl t cx cy (.int .i64 x) (.int q 1) = some (.int .i64 (x * 2 : Nat)) := b_shl64 (n := 1) (by decide) (by simpa using h)
theorem shl_2 (h : x * 4 < 9223372036854775808) : binA P .shl t cx cy (.int .i64 x) (.int q 2) = some (.int .i64 (x * 4 : Nat)) := b_shl64 (n := 2) (by decide) (by simpa using h)
theorem shl_3 (h : x * 8 < 9223372036854775808) : binA P .shl t cx cy (.int .i64 x) (.int q 3) = some (.int .i64 (x * 8 : Nat)) := b_shl64 (n := 3) (by decide) (by simpa using h)
theorem shl_4 (h : x * 16 < 9223372036854775808) : binA P .shl t cx cy (.int .i64 x) (.int q 4) = some (.int .i64 (x * 16 : Nat)) := b_shl64 (n := 4) (by decide) (by simpa using h)
theorem shl_8 (h : x * 256 < 9223372036854775808) : binA P .shl t cx cy (.int .i64 x) (.int q 8) = some (.int .i64 (x * 256 : Nat)) := b_shl64 (n := 8) (by decide) (by simpa using h)
theorem shl_16 (h : x * 65536 < 9223372036854775808) : binA P .shl t cx cy (.int .i64 x) (.int q 16) = some (.int .i64 (x * 65536 : Nat)) := b_shl64 (n := 16) (by decide) (by simpa using h)
theorem shl_24 (h : x * 16777216 < 9223372036854775808) : binA P .shl t cx cy (.int .i64 x) (.int q 24) = some (.int .i64 (x * 16777216 : Nat)) := b_shl64 (n := 24) (by decide) (by simpa using h)
theorem shr_1 : binA P .shr t cx cy (.int .i64 x) (.int q 1) = some (.int .i64 (x / 2 : Nat)) := b_shr64 (n := 1) (by decide)
theorem shr_2 : binA P .shr t cx cy (.int .i64 x) (.int q 2) = some (.int .i64 (x / 4 : Nat)) := b_shr64 (n := 2) (by decide)
theorem shr_3 : binA P .shr t cx cy (.int .i64 x) (.int q 3) = some (.int .i64 (x / 8 : Nat)) := b_shr64 (n := 3) (by decide)
theorem shr_4 : binA P .shr t cx cy (.int .i64 x) (.int q 4) = some (.int .i64 (x / 16 : Nat)) := b_shr64 (n := 4) (by decide)
theorem shr_8 : binA P .shr t cx cy (.int .i64 x) (.int q 8) = some (.int .i64 (x / 256 : Nat)) := b_shr64 (n := 8) (by decide)
theorem and_1 (h : x < 9223372036854775808) : binA P .and t cx cy (.int .i64 x) (.int .i64 1) = some (.int .i64 (x % 2 : Nat)) := by
  have e := b_and64 (P := P) (t := t) (cx := cx) (cy := cy) (x := x) (y := 1) h (by decide)
  rw [Nat.and_one_is_mod] at e; exact e
theorem and_7 (h : x < 9223372036854775808) : binA P .and t cx cy (.int .i64 x) (.int .i64 7) = some (.int .i64 (x % 8 : Nat)) := by
  have e := b_and64 (P := P) (t := t) (cx := cx) (cy := cy) (x := x) (y := 7) h (by decide)
  rw [show (7 : Nat) = 2 ^ 3 - 1 from rfl, Nat.and_two_pow_sub_one_eq_mod] at e; exact e
theorem or_add (a b k : Nat) (h : b < 2 ^ k) : a * 2 ^ k ||| b = a * 2 ^ k + b := by
  rw [Nat.mul_comm, Nat.two_pow_add_eq_or_of_lt h]
theorem or_256 {a b : Nat} (h : b < 256) : a * 256 ||| b = a * 256 + b := or_add a b 8 h
theorem or_16 {a b : Nat} (h : b < 16) : a * 16 ||| b = a * 16 + b := or_add a b 4 h
theorem or_2 {a b : Nat} (h : b < 2) : a * 2 ||| b = a * 2 + b := or_add a b 1 h
theorem addN {a b : Nat} (h : a + b < 9223372036854775808) : binA P .add t cx cy (.int .i64 a) (.int .i64 b) = some (.int .i64 (a + b : Nat)) := by
  rw [b_add, wrap64 (by omega) (by omega)]; rfl
end
/-! ### calls that leave all blocks as they were -/
noncomputable def gar (c : Ctx) (f : FuncId) (args : List Value) (h : AHeap) : AHeap := ((evU c f args h).map (fun r => r.2.drop h.length)).getD []
theorem Quiet.eq {c : Ctx} {f : FuncId} {args : List Value} {h : AHeap} {w : Value} (hq : Quiet c f args h w) (K : Value → AHeap → Prop) : FW c f args h K = K w (h ++ gar c f args h) := by
  obtain ⟨v, h', he, rfl, g, rfl⟩ := hq
  have e : gar c f args h = g := by unfold gar; rw [he]; simp
  rw [e]
  exact propext ⟨fun ⟨v2, h2, he2, hk⟩ => by rw [he] at he2; cases he2; exact hk, fun hk => ⟨_, _, he, hk⟩⟩
theorem Quiet.use' {c : Ctx} {f : FuncId} {args : List Value} {h : AHeap} {w : Value} (hq : Quiet c f args h w) {K : Value → AHeap → Prop} (hk : ∀ g, K w (h ++ g)) : FW c f args h K := by
  refine FW.mono hq fun v h' hh => ?_
  obtain ⟨rfl, g, rfl⟩ := hh
  exact hk g
/-- A call that hands back something new and leaves all blocks as they were. -/
def Gives (c : Ctx) (f : FuncId) (args : List Value) (h : AHeap) (R : Value → AHeap → Prop) : Prop := FW c f args h fun v h' => Ext h h' ∧ R v h'
theorem Gives.use {c : Ctx} {f : FuncId} {args : List Value} {h : AHeap} {R : Value → AHeap → Prop} (hq : Gives c f args h R) {K : Value → AHeap → Prop} (hk : ∀ v g, R v (h ++ g) → K v (h ++ g)) : FW c f args h K := by
  refine FW.mono hq fun v h' hh => ?_
  obtain ⟨⟨g, rfl⟩, hr⟩ := hh
  exact hk v g hr
end Go.Abs
/- Abs27: structs compared. Conditions: none. -/
set_option maxRecDepth 100000
namespace Go.Abs
section
variable {P : Program} {α β : Type}
theorem qrun_bind (x : Sem α) (f : α → Sem β) : qrun P (x >>= f) = (qrun P x).bind fun a => qrun P (f a) := by
  show qrun P (Sem.bind x f) = _
  induction x with
  | pure a => rfl
  | program k ih => simp only [Sem.bind, qrun]; exact ih P
  | mark m k ih => simp only [Sem.bind, qrun]; exact ih
  | _ => rfl
theorem qrun_pure (a : α) : qrun P (pure a : Sem α) = some a := rfl
theorem qrun_program : qrun P program = some P := rfl
theorem qrun_under {t : TypeId} {d : TypeDesc} (h : P.underlying t = some d) : qrun P (underlying t) = some d := by
  unfold underlying
  simp only [qrun_bind, qrun_program, Option.bind_some, h]
  rfl
theorem qrun_struct (d : Nat) (t : TypeId) (xs ys : Array Value) {fs : Array Field} (ht : P.underlying t = some (.struct fs)) (hp : P.stoodInHeld t = false) :
    qrun P (Op.equalIn (d + 1) t (.agg xs) (.agg ys)) = qrun P (Op.eqFields d xs ys fs.toList) := by
  simp only [Op.equalIn, qrun_bind, qrun_under ht, Option.bind_some, qrun_program, hp, Bool.false_eq_true, if_false]
  rw [← Array.forIn_toList]
  generalize fs.toList = fs
  clear ht
  induction fs with
  | nil => rfl
  | cons f fs ih =>
    simp only [List.forIn_cons, Op.eqFields, qrun_bind]
    split
    · simp only [qrun_bind]
      cases qrun P (part f.type xs f.offset) with
      | none => rfl
      | some a =>
        simp only [Option.bind_some]
        cases qrun P (part f.type ys f.offset) with
        | none => rfl
        | some b =>
          simp only [Option.bind_some]
          cases qrun P (Op.equalIn d f.type a b) with
          | none => rfl
          | some r =>
            cases r
            · rfl
            · simp only [Option.bind_some, Bool.not_true, Bool.false_eq_true, if_false, qrun_pure]
              exact ih
    · simp only [qrun_pure, Option.bind_some]
      exact ih
/-- How two cells of a plain kind compare. -/
def eqCell : Value → Value → Bool
  | .int _ a, .int _ b => decide (a = b)
  | .bool a, .bool b => a == b
  | .string a, .string b => decide (a = b)
  | _, _ => false
/-- Is this a cell of this type. -/
def kindly (P : Program) (t : TypeId) : Value → Bool
  | .int k _ => match P.underlying t with | some (.int k') => decide (k' = k) | _ => false
  | .bool _ => match P.underlying t with | some .bool => true | _ => false
  | .string _ => match P.underlying t with | some .string => true | _ => false
  | _ => false
theorem qrun_cell (d : Nat) {t : TypeId} {a b : Value} (ha : kindly P t a = true) (hb : kindly P t b = true) : qrun P (Op.equalIn (d + 1) t a b) = some (eqCell a b) := by
  cases a with
  | bool x =>
    cases hu : P.underlying t with
    | none => simp [kindly, hu] at ha
    | some d =>
      cases d <;> simp [kindly, hu] at ha
      cases b <;> simp [kindly, hu] at hb
      simp only [Op.equalIn, qrun_bind, qrun_under hu, Option.bind_some, qrun_pure, eqCell]
  | int k n =>
    cases hu : P.underlying t with
    | none => simp [kindly, hu] at ha
    | some d =>
      cases d <;> simp [kindly, hu] at ha
      cases b <;> simp [kindly, hu] at hb
      subst ha; subst hb
      simp only [Op.equalIn, qrun_bind, qrun_under hu, Option.bind_some, if_true, qrun_pure, eqCell]
      congr 1
  | string x =>
    cases hu : P.underlying t with
    | none => simp [kindly, hu] at ha
    | some d =>
      cases d <;> simp [kindly, hu] at ha
      cases b <;> simp [kindly, hu] at hb
      simp only [Op.equalIn, qrun_bind, qrun_under hu, Option.bind_some, qrun_pure, eqCell]
      congr 1
      rw [beq_toListBytes, str_eq]
  | _ => simp [kindly] at ha
/-- Fields of plain kinds, one cell each, in order. -/
def flatFields (P : Program) : Nat → List Field → Bool
  | _, [] => true
  | n, f :: fs => f.name != "_" && f.offset == n && (isAggA P f.type == some false) && (sizeA P f.type == some 1) && flatFields P (n + 1) fs
def kindlyAll (P : Program) : List Field → List Value → Bool
  | [], [] => true
  | f :: fs, v :: vs => kindly P f.type v && kindlyAll P fs vs
  | _, _ => false
def eqCells : List Value → List Value → Bool
  | [], [] => true
  | a :: x, b :: y => eqCell a b && eqCells x y
  | _, _ => false
theorem qrun_part {u : TypeId} {cs : Array Value} {off : Nat} {v : Value} (ha : isAggA P u = some false) (hs : sizeA P u = some 1) (hv : cs[off]? = some v) : qrun P (part u cs off) = some v := by
  unfold isAggA at ha
  obtain ⟨i, hi, _⟩ : ∃ i, P.info? u = some i ∧ i.size = 1 := by simpa [sizeA] using hs
  have hlt := (Array.getElem?_eq_some_iff.1 hv).1
  split at ha
  · cases ha
  · cases ha
  · rename_i d h1 h2 hd
    unfold part isAgg
    simp only [qrun_bind, qrun_under hd, Option.bind_some]
    have hg : cs[off] = v := Option.some.inj (by rw [← Array.getElem?_eq_getElem hlt, hv])
    cases d <;> first | (exact absurd rfl (h1 _)) | (exact absurd rfl (h2 _ _)) | (simp [qrun_pure, hlt, hg])
  · cases ha
theorem qrun_fields (d : Nat) : ∀ (fs : List Field) (n : Nat) (xs ys : List Value) (as bs : Array Value), flatFields P n fs = true → kindlyAll P fs xs = true → kindlyAll P fs ys = true →
    (∀ (i : Nat) v, xs[i]? = some v → as[n + i]? = some v) → (∀ (i : Nat) v, ys[i]? = some v → bs[n + i]? = some v) → qrun P (Op.eqFields (d + 1) as bs fs) = some (eqCells xs ys)
  | [], n, xs, ys, as, bs, _, hx, hy, _, _ => by
    cases xs <;> cases ys <;> simp [kindlyAll] at hx hy
    rfl
  | f :: fs, n, [], _, as, bs, _, hx, _, _, _ => by simp [kindlyAll] at hx
  | f :: fs, n, _ :: _, [], as, bs, _, _, hy, _, _ => by simp [kindlyAll] at hy
  | f :: fs, n, x :: xs, y :: ys, as, bs, hf, hx, hy, ha, hb => by
    simp only [flatFields, Bool.and_eq_true, bne_iff_ne, beq_iff_eq] at hf
    obtain ⟨⟨⟨⟨h1, h2⟩, h3⟩, h4⟩, h5⟩ := hf
    simp only [kindlyAll, Bool.and_eq_true] at hx hy
    simp only [Op.eqFields]
    rw [if_pos h1]
    have e1 := qrun_part (P := P) (cs := as) (off := f.offset) h3 h4 (by rw [h2]; exact ha 0 x rfl)
    have e2 := qrun_part (P := P) (cs := bs) (off := f.offset) h3 h4 (by rw [h2]; exact hb 0 y rfl)
    simp only [qrun_bind, e1, e2, Option.bind_some, qrun_cell d hx.1 hy.1]
    have ih := qrun_fields d fs (n + 1) xs ys as bs h5 hx.2 hy.2 (fun i v hv => by rw [show n + 1 + i = n + (i + 1) by omega]; exact ha (i + 1) v (by simpa using hv)) (fun i v hv => by rw [show n + 1 + i = n + (i + 1) by omega]; exact hb (i + 1) v (by simpa using hv))
    cases hc : eqCell x y with
    | false => simp [eqCells, hc, qrun_pure]
    | true => simp only [Bool.not_true, Bool.false_eq_true, if_false, eqCells, hc, Bool.true_and]; exact ih
/-- Two structs of plain fields, compared. -/
theorem agg_cmp {t : TypeId} {fs : Array Field} (hu : P.underlying t = some (.struct fs)) (hp : P.stoodInHeld t = false) (hm : P.eqGuardType P.depth t = false) (hf : flatFields P 0 fs.toList = true)
    {xs ys : List Value} (hx : kindlyAll P fs.toList xs = true) (hy : kindlyAll P fs.toList ys = true) (px : plainV 4 (.agg xs.toArray) = true) (py : plainV 4 (.agg ys.toArray) = true) {cx cy : Bool} :
    binA P .eql t cx cy (.agg xs.toArray) (.agg ys.toArray) = some (.bool (eqCells xs ys)) ∧ binA P .neq t cx cy (.agg xs.toArray) (.agg ys.toArray) = some (.bool (!eqCells xs ys)) := by
  have h0 := qrun_fields (P := P) 9998 fs.toList 0 xs ys xs.toArray ys.toArray hf hx hy (fun i v hv => by simpa using hv) (fun i v hv => by simpa using hv)
  have h1 : qrun P (Op.equal t (.agg xs.toArray) (.agg ys.toArray)) = some (eqCells xs ys) := by
    show qrun P (Op.equalIn (9999 + 1) t _ _) = _
    rw [qrun_struct 9999 t _ _ hu hp]
    exact h0
  have g1 : ∀ op, qrun P (eqGuard op t (.tmp 0) (.tmp 0) (.agg xs.toArray) (.agg ys.toArray)) = some () := by
    intro op
    cases op <;> simp [eqGuard, qrun_bind, qrun_program, qrun_pure, hm]
  constructor
  · simp only [binA, px, py, Bool.and_self, if_true, qrun_bind, g1, Option.bind_some]
    have : qrun P (binOp .eql t (.agg xs.toArray) (.agg ys.toArray)) = some (.bool (eqCells xs ys)) := by
      simp only [binOp, qrun_bind, h1, Option.bind_some, qrun_pure]
    rw [this]; rfl
  · simp only [binA, px, py, Bool.and_self, if_true, qrun_bind, g1, Option.bind_some]
    have : qrun P (binOp .neq t (.agg xs.toArray) (.agg ys.toArray)) = some (.bool (!eqCells xs ys)) := by
      simp only [binOp, qrun_bind, h1, Option.bind_some, qrun_pure]
    rw [this]; rfl
end
end Go.Abs
/- Abs28: blocks of the base that are written; what else stays. Conditions: none. -/
set_option maxRecDepth 100000
set_option linter.unusedVariables false
namespace Go.Abs
section
variable {h H X : AHeap} {p q i : Nat} {v w : Option AObj} {k : Blk}
theorem set_base (hp : p < h.length) : (h ++ X).set p v = h.set p v ++ X := List.set_append_left _ _ hp
theorem blk_setB (hp : p < h.length) : blkA (h.set p (some (.cells k)) ++ X) p = some k := by
  unfold blkA; rw [List.getElem?_append_left (by rw [List.length_set]; exact hp), List.getElem?_set_self hp]
theorem blk_setB0 (hp : p < h.length) : blkA (h.set p (some (.cells k))) p = some k := by
  unfold blkA; rw [List.getElem?_set_self hp]
theorem blk_setN (hn : q ≠ p) : blkA (h.set p v ++ X) q = blkA (h ++ X) q := by
  unfold blkA
  by_cases hq : q < h.length
  · rw [List.getElem?_append_left (by rw [List.length_set]; exact hq), List.getElem?_append_left hq, List.getElem?_set_ne (fun h => hn h.symm)]
  · rw [List.getElem?_append_right (by rw [List.length_set]; omega), List.getElem?_append_right (by omega), List.length_set]
theorem blk_setN0 (hn : q ≠ p) : blkA (h.set p v) q = blkA h q := by
  unfold blkA; rw [List.getElem?_set_ne (fun h => hn h.symm)]
theorem set_atH (hl : H.length = h.length) : (H ++ X).set (h.length + i) v = H ++ X.set i v := by rw [← hl]; exact set_at
theorem set_atH0 (hl : H.length = h.length) : (H ++ X).set h.length v = H ++ X.set 0 v := by rw [← hl]; exact set_at0
theorem blk_atH (hl : H.length = h.length) : blkA (H ++ X) (h.length + i) = nth X i := by rw [← hl]; exact blkA_at
theorem blk_atH0 (hl : H.length = h.length) : blkA (H ++ X) h.length = nth X 0 := by rw [← hl]; exact blkA_at0
theorem set_twice : (h.set p v).set p w = h.set p w := List.set_set ..
end
section
variable {P : Program} {h : AHeap} {t : TypeId} {b o n m : Nat} {lo hi : Option Value} {K : Value → Prop}
theorem slice_nil : someP (sliceA P t (.slice none 0 0) lo hi h) K = someP (sliceT (P.underlying t)) fun e => someP (sizeA P e) fun _ => someP (boundsA 0 lo hi) fun _ => K (.slice none 0 0) := by
  unfold sliceA
  cases P.underlying t with
  | none => simp [someP_n, sliceT]
  | some d =>
    cases d with
    | slice e =>
      simp only [sliceT, someP_s]
      cases sizeA P e <;> cases boundsA 0 lo hi <;> simp [someP_n, someP_s]
    | _ => simp [someP_n, sliceT]
theorem slice_some : someP (sliceA P t (.slice (some ⟨b, o, none⟩) n m) lo hi h) K = someP (sliceT (P.underlying t)) fun e => someP (boundsA n lo hi) fun p => someP (sizeA P e) fun size => someP (blkA h b) fun k => k.esz = size ∧ K (.slice (some ⟨b, o + p.1 * size, none⟩) (p.2 - p.1) (p.2 - p.1)) := by
  unfold sliceA
  cases P.underlying t with
  | none => simp [someP_n, sliceT]
  | some d =>
    cases d with
    | slice e =>
      simp only [sliceT, someP_s]
      cases boundsA n lo hi with
      | none => simp [someP_n]
      | some p =>
        cases sizeA P e with
        | none => simp [someP_n, someP_s]
        | some size =>
          cases blkA h b with
          | none => simp [someP_n, someP_s]
          | some k => simp [someP_s, sP_ite]
    | _ => simp [someP_n, sliceT]
end
/-! ### regions that draw their order -/
def flexS (ops : Array Oper) (k : Nat) : Option (List (TypeId × Operand)) :=
  ((List.range ops.size).filter fun j => !(j == k || pureAt ops j || (if j < k then ((ancA ops.toList []).getD k []).contains j else ((ancA ops.toList []).getD j []).contains k))).mapM fun j =>
    if (decide (j < k) && looksFree ops j k) = true then match ops[j]? with
      | some o => match o.op with
        | .load t x => some (t, x)
        | _ => none
      | none => none
    else none
theorem mapM_mem {α β : Type} {f : α → Option β} : ∀ {l : List α} {r : List β}, l.mapM f = some r → ∀ x, x ∈ l → ∃ y, f x = some y ∧ y ∈ r
  | [], _, _, x, hx => by simp at hx
  | a :: l, r, h, x, hx => by
    simp only [List.mapM_cons] at h
    cases ha : f a with
    | none => simp [ha] at h
    | some b =>
      cases hl : l.mapM f with
      | none => simp [ha, hl] at h
      | some s =>
        simp [ha, hl] at h
        subst h
        rcases List.mem_cons.1 hx with rfl | hx
        · exact ⟨b, ha, by simp⟩
        · obtain ⟨y, h1, h2⟩ := mapM_mem hl x hx
          exact ⟨y, h1, by simp [h2]⟩
section
variable {c : Ctx} {ops : Array Oper} {k : Nat} {fr : AFrame} {h h' : AHeap} {op : Op} {p : Prop}
theorem flex_of {L : List (TypeId × Operand)} (hs : flexS ops k = some L) (hL : ∀ tx, tx ∈ L → ∃ a, evA c fr tx.2 = some a ∧ loadA c.P h tx.1 a = loadA c.P h' tx.1 a) : flexA c ops (ancA ops.toList []) k fr h h' = true := by
  refine List.all_eq_true.2 fun j hj => ?_
  by_cases hb : (j == k || pureAt ops j || (if j < k then ((ancA ops.toList []).getD k []).contains j else ((ancA ops.toList []).getD j []).contains k)) = true
  · rw [hb]; rfl
  · obtain ⟨tx, h1, h2⟩ := mapM_mem hs j (List.mem_filter.2 ⟨hj, by rw [Bool.not_eq_true] at hb; rw [hb]; rfl⟩)
    obtain ⟨a, h3, h4⟩ := hL tx h2
    split at h1
    · rename_i hc
      simp only [Bool.and_eq_true] at hc
      split at h1
      · rename_i o ho
        split at h1
        · rename_i t x hop
          cases h1
          simp only at h3 h4
          simp only [hc.1, hc.2, Bool.true_and, ho, hop, h3, h4, decide_true, Bool.or_true]
        · cases h1
      · cases h1
    · cases h1
theorem DQ_mt (hm : mutA ops (ancA ops.toList []) k = true) : DQ op (mtF c ops k fr h h') h h' p = p := DQ_m (by unfold mtF; rw [hm]; rfl)
theorem DQ_fx {L : List (TypeId × Operand)} (hs : flexS ops k = some L) (hL : ∀ tx, tx ∈ L → ∃ a, evA c fr tx.2 = some a ∧ loadA c.P h tx.1 a = loadA c.P h' tx.1 a) (hp : p) : DQ op (mtF c ops k fr h h') h h' p := by
  rw [DQ_m]
  · exact hp
  · unfold mtF; rw [flex_of hs hL, Bool.or_true]
theorem DQ_fx1 {t : TypeId} {u : Tmp} {v : Value} (hs : flexS ops k = some [(t, .tmp u)]) (hv : fget fr u = v) (hl : loadA c.P h t v = loadA c.P h' t v) (hp : p) : DQ op (mtF c ops k fr h h') h h' p :=
  DQ_fx hs (fun tx htx => by rw [List.mem_singleton] at htx; subst htx; exact ⟨v, congrArg some hv, hl⟩) hp
end
/-! ### nil -/
def ptrT : Option TypeDesc → Bool
  | some (.pointer _) => true
  | _ => false
theorem ptT {e : TypeId} : ptrT (some (.pointer e)) = true := rfl
section
variable {P : Program} {t : TypeId} {cx : Bool} {a : Option Addr} {n m : Nat}
theorem nil_eqP (ht : ptrT (P.underlying t) = true) : binA P .eql t cx true (.pointer a) (.pointer none) = some (.bool a.isNone) := by
  cases hu : P.underlying t with
  | none => rw [hu] at ht; simp [ptrT] at ht
  | some d =>
    cases d <;> rw [hu] at ht <;> simp [ptrT] at ht
    cases a <;> simp [binA, eqNilA, nilType, hu, nilA]
theorem nil_neP (ht : ptrT (P.underlying t) = true) : binA P .neq t cx true (.pointer a) (.pointer none) = some (.bool (!a.isNone)) := by
  cases hu : P.underlying t with
  | none => rw [hu] at ht; simp [ptrT] at ht
  | some d =>
    cases d <;> rw [hu] at ht <;> simp [ptrT] at ht
    cases a <;> simp [binA, eqNilA, nilType, hu, nilA]
theorem nil_eqS {e : TypeId} (ht : sliceT (P.underlying t) = some e) : binA P .eql t cx true (.slice a n m) (.slice none 0 0) = some (.bool a.isNone) := by
  cases hu : P.underlying t with
  | none => rw [hu] at ht; simp [sliceT] at ht
  | some d =>
    cases d <;> rw [hu] at ht <;> simp [sliceT] at ht
    cases a <;> simp [binA, eqNilA, nilType, hu, nilA]
theorem nil_neS {e : TypeId} (ht : sliceT (P.underlying t) = some e) : binA P .neq t cx true (.slice a n m) (.slice none 0 0) = some (.bool (!a.isNone)) := by
  cases hu : P.underlying t with
  | none => rw [hu] at ht; simp [sliceT] at ht
  | some d =>
    cases d <;> rw [hu] at ht <;> simp [sliceT] at ht
    cases a <;> simp [binA, eqNilA, nilType, hu, nilA]
end
/-- A heap behind another: blocks outside F stand as they were; the blocks of F' are of F or new. -/
structure Upd (h h' : AHeap) (F F' : List Nat) : Prop where
  len : h.length ≤ h'.length
  same : ∀ q, q < h.length → q ∉ F → h'[q]? = h[q]?
  own : ∀ q, q ∈ F' → q ∈ F ∨ h.length ≤ q
theorem Upd.refl (h : AHeap) (F : List Nat) : Upd h h F F := ⟨Nat.le_refl _, fun _ _ _ => rfl, fun _ hq => .inl hq⟩
theorem Upd.trans {a b c : AHeap} {F G K : List Nat} (x : Upd a b F G) (y : Upd b c G K) : Upd a c F K := by
  refine ⟨Nat.le_trans x.len y.len, fun q hq hn => ?_, fun q hq => ?_⟩
  · rw [y.same q (Nat.lt_of_lt_of_le hq x.len) (fun hg => ?_), x.same q hq hn]
    rcases x.own q hg with h | h
    · exact hn h
    · omega
  · rcases y.own q hq with h | h
    · exact x.own q h
    · exact .inr (Nat.le_trans x.len h)
theorem Upd.blk {h h' : AHeap} {F F' : List Nat} (u : Upd h h' F F') {q : Nat} {k : Blk} (hq : q ∉ F) (hb : blkA h q = some k) : blkA h' q = some k := by
  have hl := blkA_lt hb
  unfold blkA at hb ⊢
  rw [u.same q hl hq]; exact hb
theorem Upd.ext {h h' : AHeap} (F : List Nat) (e : Ext h h') : Upd h h' F F := ⟨e.len, fun q hq _ => e.get hq, fun _ hq => .inl hq⟩
theorem Upd.app (h g : AHeap) (F : List Nat) : Upd h (h ++ g) F F := Upd.ext F (.app h g)
theorem Upd.set {h h' : AHeap} {F F' : List Nat} (u : Upd h h' F F') {b : Nat} {v : Option AObj} (hb : b ∈ F) : Upd h (h'.set b v) F F' :=
  ⟨by rw [List.length_set]; exact u.len, fun q hq hn => by
    have hne : b ≠ q := (fun e => by subst e; exact hn hb)
    rw [List.getElem?_set_ne hne]; exact u.same q hq hn, u.own⟩
theorem Upd.setNew {h h' : AHeap} {F F' : List Nat} (u : Upd h h' F F') {b : Nat} {v : Option AObj} (hb : h.length ≤ b) : Upd h (h'.set b v) F F' :=
  ⟨by rw [List.length_set]; exact u.len, fun q hq hn => by
    have hne : b ≠ q := by omega
    rw [List.getElem?_set_ne hne]; exact u.same q hq hn, u.own⟩
theorem Upd.more {h h' : AHeap} {F F' : List Nat} (u : Upd h h' F F') (g : AHeap) : Upd h (h' ++ g) F F' :=
  ⟨by rw [List.length_append]; exact Nat.le_trans u.len (Nat.le_add_right _ _), fun q hq hn => by rw [List.getElem?_append_left (Nat.lt_of_lt_of_le hq u.len)]; exact u.same q hq hn, u.own⟩
theorem Upd.to {h h' : AHeap} {F F' G : List Nat} (u : Upd h h' F F') (hg : ∀ q, q ∈ G → q ∈ F ∨ h.length ≤ q) : Upd h h' F G := ⟨u.len, u.same, hg⟩
theorem Upd.from {h h' : AHeap} {F F' G : List Nat} (u : Upd h h' F F') (hg : ∀ q, q ∈ F → q ∈ G) : Upd h h' G F' := ⟨u.len, fun q hq hn => u.same q hq (fun hf => hn (hg q hf)), fun q hq => (u.own q hq).imp (hg q) id⟩
end Go.Abs
/- Abs29: the rules, in bundles. Conditions: none. -/
set_option maxRecDepth 100000
set_option linter.defProp false
namespace Go.Abs
noncomputable def RP := And.intro @RWn (And.intro @RWc (And.intro @RWg' (And.intro @PWn (And.intro @PWs (And.intro @CW_eq (And.intro @CB_bool (And.intro @GW_t (And.intro @GW_f (And.intro @OW_move (And.intro @OW_assign (And.intro @OW_pick (And.intro @OW_nilCheck (And.intro @OW_bin (And.intro @OW_un (And.intro @OW_makeFunc (And.intro @OW_fieldAddr (And.intro @OW_field (And.intro @OW_indexAddr (And.intro @OW_index (And.intro @OW_extract (And.intro @OW_build (And.intro @OW_len (And.intro @OW_min (And.intro @OW_max (And.intro @OW_load (And.intro @OW_store (And.intro @OW_alloc (And.intro @OW_box (And.intro @OW_convert (And.intro @OW_slice (And.intro @OW_buildSlice (And.intro @OW_makeSlice (And.intro @OW_call (And.intro @OW_append (And.intro @AW_skip (And.intro @AW_ret (And.intro @AW_exit (And.intro @AW_reg (And.intro @AW_cond (And.intro @AW_block (And.intro @tQn (And.intro @tQe (And.intro @tQr (And.intro @bQn (And.intro @bQe (And.intro @bQr (And.intro @rQn (And.intro @rQr (And.intro @AW_draw (And.intro @RWDn (And.intro @RWDc (And.intro @RWDg' (And.intro @DQ_move (And.intro @DQ_assign (And.intro @DQ_pick (And.intro @DQ_nilCheck (And.intro @DQ_bin (And.intro @DQ_un (And.intro @DQ_makeFunc (And.intro @DQ_makeIface (And.intro @DQ_fieldAddr (And.intro @DQ_field (And.intro @DQ_indexAddr (And.intro @DQ_index (And.intro @DQ_extract (And.intro @DQ_build (And.intro @DQ_len (And.intro @DQ_min (And.intro @DQ_max (And.intro @DQ_load (And.intro @DQ_convert (And.intro @DQ_slice (And.intro @DQ_alloc (And.intro @DQ_box (And.intro @DQ_buildSlice (And.intro @DQ_makeSlice (And.intro @DQ_range (And.intro @AW_seq (And.intro @DQ_pre (@DQ_mt))))))))))))))))))))))))))))))))))))))))))))))))))))))))))))))))))))))))))))))))
noncomputable def RQ := And.intro @gsome (And.intro @someP_s (And.intro @someP_n (And.intro @evA_tmp (And.intro @evA_int (And.intro @evA_str (And.intro @evA_bool (And.intro @evA_nilp (And.intro @evA_nils (And.intro @evA_nilf (And.intro @evA_nili (And.intro @evA_func (And.intro @evL_n (And.intro @evL_c (And.intro @evP_n (And.intro @evP_c (And.intro @b_add (And.intro @b_sub (And.intro @b_mul (And.intro @b_quo (And.intro @b_rem (And.intro @b_and32 (And.intro @b_or32 (And.intro @b_xor32 (And.intro @b_and8 (And.intro @b_or8 (And.intro @b_xor8 (And.intro @ofInt32 (And.intro @b_eql (And.intro @b_neq (And.intro @b_lss (And.intro @b_leq (And.intro @b_gtr (And.intro @b_geq (And.intro @bb_eql (And.intro @bb_neq (And.intro @un_not (And.intro @un_neg (And.intro @un_xor32 (And.intro @conv_int (And.intro @conv_int2 (And.intro @res_n (And.intro @res_t (And.intro @res_c (And.intro @one1 (And.intro @one0 (And.intro @one2 (And.intro @fget_set (And.intro @fget_cons0 (And.intro @fget_consS (And.intro @Int.toNat_natCast (And.intro @Nat.mul_one (And.intro @Nat.zero_add (And.intro @Nat.add_zero (And.intro @and_self (And.intro @true_and (And.intro @and_true (And.intro @decide_eq_true_eq (And.intro @Bool.false_eq_true (And.intro @List.toList_toArray.{0} (And.intro @List.getElem?_toArray.{0} (And.intro @List.getElem?_cons_zero.{0} (And.intro @List.getElem?_cons_succ.{0} (And.intro @List.nil_append.{0} (And.intro @List.append_nil.{0} (And.intro @List.cons_append.{0} (And.intro @sP_ite (And.intro @sP_ite2 (And.intro @sP_map (And.intro @sP_bind (And.intro @nth_0 (And.intro @nth_S (And.intro @nth_g (And.intro @nth_g0 (And.intro @loadA_eq (And.intro @loadK_1 (And.intro @loadK_n (And.intro @storeA_eq (And.intro @storeK_s (And.intro @put_n (And.intro @put_c (And.intro @c_int (And.intro @c_str (And.intro @c_bool (And.intro @c_ptr (And.intro @c_sl (And.intro @c_fn (And.intro @c_nf (And.intro @c_ni (And.intro @c_agg (And.intro @o_int (And.intro @o_str (And.intro @o_bool (And.intro @o_ptr (And.intro @o_sl (And.intro @o_fn (And.intro @o_nf (And.intro @o_ni (And.intro @all_n (And.intro @all_c (And.intro @all_a (And.intro @build_s (And.intro @fillL_n (And.intro @fillL_c (And.intro @bslice (And.intro @mslice (And.intro @app_nil (And.intro @app_some (And.intro @app_type (And.intro @more_nil (And.intro @more_some (And.intro @more_str (And.intro @takeA_eq (And.intro @str_mk (And.intro @str_size (And.intro @str_data (And.intro @str_app (And.intro @ss_add (And.intro @ss_eql (And.intro @ss_neq (And.intro @bd_nn (And.intro @bd_ni (And.intro @bd_in (And.intro @bd_ii (And.intro @slice_str (And.intro @index_str (And.intro @len_str (And.intro @len_sl' (And.intro @cv_sb (And.intro @idx_sl (And.intro @slT (And.intro @stT (And.intro @part_1 (And.intro @part_n (And.intro @List.append_assoc.{0} (And.intro @List.length_append.{0} (And.intro @List.length_cons.{0} (And.intro @List.length_nil.{0} (And.intro @List.set_cons_zero.{0} (And.intro @List.set_cons_succ.{0} (And.intro @List.getElem?_nil.{0} (And.intro @List.size_toArray.{0} (And.intro @List.drop_zero.{0} (And.intro @List.drop_succ_cons.{0} (And.intro @List.take_succ_cons.{0} (And.intro @List.take_zero.{0} (And.intro @List.drop_nil.{0} (And.intro @List.take_nil.{0} (And.intro @Bool.and_true (And.intro @Bool.true_and (And.intro @Bool.and_self (And.intro @not_true_eq_false (And.intro @not_false_eq_true (And.intro @Nat.le_refl (And.intro @Option.isSome_some.{0} (And.intro @List.length_replicate.{0} (And.intro @List.length_map.{0, 0} (And.intro @Option.getD_some.{0} (And.intro @wrap64 (And.intro @strOf_map (And.intro @shl_1 (And.intro @shl_2 (And.intro @shl_3 (And.intro @shl_4 (And.intro @shl_8 (And.intro @shl_16 (And.intro @shl_24 (And.intro @shr_1 (And.intro @shr_2 (And.intro @shr_3 (And.intro @shr_4 (And.intro @shr_8 (And.intro @and_1 (And.intro @and_7 (And.intro @b_or64 (And.intro @decide_true (And.intro @decide_false (And.intro @Bool.or_true (And.intro @Bool.or_false (And.intro @Bool.not_true (And.intro @Bool.not_false (And.intro @Bool.not_not (And.intro @b_shr32l (And.intro @Int.natCast_nonneg (And.intro @takeMap (And.intro @bytesV_str (And.intro @all_byteV (And.intro @decide_not (And.intro @Nat.sub_zero (And.intro @Int.sub_zero (And.intro @Int.zero_add (And.intro @Int.add_zero (And.intro @takeDrop (And.intro @takeAll (And.intro @cast0 (And.intro @cast1 (And.intro @rep0 (And.intro @rep1 (And.intro @rep2 (And.intro @rep3 (And.intro @rep4 (And.intro @nth_gs (And.intro @nth_gs0 (And.intro @set_gs (And.intro @set_gs0 (And.intro @List.length_set.{0} (And.intro @set_base (And.intro @blk_setB (And.intro @blk_setB0 (And.intro @blk_setN (And.intro @blk_setN0 (And.intro @set_atH (And.intro @set_atH0 (And.intro @blk_atH (And.intro @blk_atH0 (And.intro @set_twice (And.intro @slice_nil (And.intro @slice_some (And.intro @nil_eqP (And.intro @nil_neP (And.intro @ptT (And.intro @Option.isNone_none.{0} (And.intro @Option.isNone_some.{0} (And.intro @or_true (And.intro @true_or (And.intro @or_false (@false_or))))))))))))))))))))))))))))))))))))))))))))))))))))))))))))))))))))))))))))))))))))))))))))))))))))))))))))))))))))))))))))))))))))))))))))))))))))))))))))))))))))))))))))))))))))))))))))))))))))))))))))))))))))))))))))))))))
end Go.Abs
/- Abs30: a function that has a contract of its own: values without addresses go in and come out, what lay stays. Conditions: none. -/
set_option maxRecDepth 100000
namespace Go.Abs
open Go.RowKit
theorem Post.of_below {G : Nat → Option Nat} {B : Nat} {E : Env} {h : AHeap} {w w' : World} (s : Sim G B E h w) (b : Below w.heap.size w w') : Post G B E E h h w w' := by
  have hk : ∀ (id : Nat) (o : AObj) e, h[id]? = some (some o) → E id = some e → w'.heap[e.blk]? = w.heap[e.blk]? := fun id o e h1 h2 => b.block _ (s.obj id o e h1 h2).lt
  refine ⟨Env.le.refl E, Nat.le_refl _, fun id hid => absurd rfl hid, ⟨fun id o e h1 h2 => (s.obj id o e h1 h2).mono (Env.le.refl E) (hk id o e h1 h2), s.low, s.apart, Nat.le_trans s.base b.size, s.glob⟩, b.os, b.tape, b.output, b.size, fun x hx _ => b.block x hx, fun x hx => .inl hx, fun id e h1 h2 => ?_⟩
  rw [h2] at h1; cases h1
def pureP (spec : List Value → Option Value) : List Value → AHeap → Option (Value × AHeap) := fun args h => (spec args).map fun v => (v, h)
/-- What is asked of a function that is known by its values alone. -/
def PureOK (P : Program) (f : FuncId) (spec : List Value → Option Value) : Prop := ∀ args v, spec args = some v → args.all (plainV 3) = true ∧ plainV 3 v = true ∧ ∀ w : World, CallOK P f args.toArray w fun e w' => e = .returned v ∧ Below w.heap.size w w'
theorem LR.plain_eq {E : Env} : ∀ {xs ys : List Value}, xs.all (plainV 3) = true → LR E xs ys → ys = xs
  | [], [], _, _ => rfl
  | [], _ :: _, _, h => absurd h.1 (by simp)
  | _ :: _, [], _, h => absurd h.1 (by simp)
  | x :: xs, y :: ys, hp, h => by
    simp only [List.all_cons, Bool.and_eq_true] at hp
    obtain ⟨h1, h2⟩ := h.uncons
    rw [VR.plain_eq 3 hp.1 h1, LR.plain_eq hp.2 h2]
theorem CallOK.mono {P : Program} {f : FuncId} {args : Array Value} {w : World} {R R' : Ending → World → Prop} (h : CallOK P f args w R) (hr : ∀ e w', R e w' → R' e w') : CallOK P f args w R' := by
  rcases h with ⟨h1, h2⟩ | ⟨v, w', h1, h2⟩
  · exact .inl ⟨h1, h2.mono hr⟩
  · exact .inr ⟨v, w', h1, hr _ _ h2⟩
theorem pure_len (spec : List Value → Option Value) : CallLen fun _ => pureP spec := by
  intro f args h v h' he
  simp only [pureP, Option.map_eq_some_iff] at he
  obtain ⟨u, _, hu⟩ := he
  cases hu
  exact Nat.le_refl _
theorem pure_ok {c : Ctx} {B : Nat} {f : FuncId} {spec : List Value → Option Value} (hs : PureOK c.P f spec) : ∀ args h v h', pureP spec args h = some (v, h') → ∀ E w args', Sim c.G B E h w → LR E args args' → Free E h h' →
    CallOK c.P f args'.toArray w fun e w' => ∃ E' v', e = .returned v' ∧ Post c.G B E E' h h' w w' ∧ VR E' v v' := by
  intro args h v h' he E w args' s hl _
  simp only [pureP, Option.map_eq_some_iff] at he
  obtain ⟨u, hu, hv⟩ := he
  cases hv
  obtain ⟨h1, h2, h3⟩ := hs args v hu
  rw [LR.plain_eq h1 hl]
  exact (h3 w).mono fun e w' ⟨he, hb⟩ => ⟨E, v, he, Post.of_below s hb, VR.plain E 3 v h2⟩
/-- A call of such a function. -/
theorem FW_prim {c : Ctx} {f : FuncId} {p : List Value → AHeap → Option (Value × AHeap)} {args : List Value} {h h' : AHeap} {v : Value} {Q : Value → AHeap → Prop} (hp : c.prim f = some p) (he : p args h = some (v, h')) (hq : Q v h') : FW c f args h Q := by
  refine ⟨v, h', evU_of (k := 1) ?_, hq⟩
  simp only [evF, hp, he]
theorem Quiet.prim {c : Ctx} {f : FuncId} {spec : List Value → Option Value} {args : List Value} {h : AHeap} {v : Value} (hp : c.prim f = some (pureP spec)) (he : spec args = some v) : Quiet c f args h v :=
  FW_prim hp (by simp only [pureP, he, Option.map_some]) ⟨rfl, Ext.refl _⟩
theorem callOK_of {P : Program} {f : FuncId} {fn : Func} {cd : Code} {args : Array Value} {w : World} {R : Ending → World → Prop} (hf : P.funcs[f]? = some fn) (hb : fn.body = some cd) (hn : (fn.name == "runtime.NumGoroutine") = false) (hc : Calls P f args w R) : CallOK P f args w R := by
  refine .inl ⟨?_, hc⟩
  have h1 : fn.name ≠ "runtime.NumGoroutine" := by simpa using hn
  simp [callFunc, hf, h1, hb, mark]
end Go.Abs
