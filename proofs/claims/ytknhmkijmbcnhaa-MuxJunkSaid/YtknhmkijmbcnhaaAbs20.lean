/- Abs20: a region that draws its order: the theorem. Conditions: none. -/
import Derived.Test.YtknhmkijmbcnhaaAbs19
set_option linter.unusedVariables false
set_option linter.unusedSimpArgs false
namespace Go.Abs
section
variable {c : Ctx} {B : Nat} {call : CallF} {n : Nat} {ops : Array Oper} {F : Nat → AFrame} {H : Nat → AHeap} {V : Nat → Value}
def Inv (c : Ctx) (B n : Nat) (ops : Array Oper) (H : Nat → AHeap) (V : Nat → Value) (E0 : Env) (fr : AFrame) (w0 : World) (ds : List Deferred) (listed : Array Bool) (a : Act) (w : World) : Prop :=
  listed.size = ops.size ∧ DC ops listed ∧ ∃ E q, PN c.G B E0 E (H 0) (H q) w0 w ∧ q ≤ ops.size ∧ (∀ j, j < q → Mu H j → listed.getD j false = true) ∧ (q < ops.size → Mu H q ∧ listed.getD q false = false) ∧
    (∀ id, E id ≠ E0 id → ∃ i, i < ops.size ∧ listed.getD i false = true ∧ (H i).length ≤ id ∧ id < (H (i + 1)).length) ∧ n ≤ a.tmps.size ∧
    (∀ t, VR E (Fv ops fr V listed ops.size t) (a.tmps.getD t undef)) ∧ a.defers = ds
theorem pure_any {f : AFrame} {op : Op} {h h' hh : AHeap} {v : Value} (hp : pureOp op = true) (he : evOp c call f op h = some (v, h')) : evOp c call f op hh = some (v, hh) ∧ h' = h := by
  unfold evOp at he ⊢
  rw [if_pos hp] at he ⊢
  simp only [Option.map_eq_some_iff] at he
  obtain ⟨x, hx, he⟩ := he
  simp only [Prod.mk.injEq] at he
  rw [hx, he.1]
  exact ⟨rfl, he.2.symm⟩
theorem put_tmps {a : Act} {dst : Option Tmp} {v : Value} (hd : ∀ d, dst = some d → d < a.tmps.size) (t : Nat) : (a.put dst v).tmps.getD t undef = if dst = some t then v else a.tmps.getD t undef := by
  cases dst with
  | none => simp [Act.put]
  | some d =>
    simp only [Act.put, Array.getD_eq_getD_getElem?]
    by_cases ht : d = t
    · subst ht
      rw [Array.getElem?_setIfInBounds_self_of_lt (hd d rfl), if_pos rfl]; rfl
    · rw [Array.getElem?_setIfInBounds_ne ht, if_neg (by simpa using ht)]
theorem list_set {listed : Array Bool} {i : Nat} (hi : i < listed.size) (j : Nat) : (listed.setIfInBounds i true).getD j false = true ↔ listed.getD j false = true ∨ j = i := by
  simp only [Array.getD_eq_getD_getElem?]
  by_cases hj : i = j
  · subst hj; rw [Array.getElem?_setIfInBounds_self_of_lt hi]; simp
  · rw [Array.getElem?_setIfInBounds_ne hj]
    constructor
    · exact fun h => .inl h
    · rintro (h | h)
      · exact h
      · exact absurd h.symm hj
theorem loadA_app {P : Program} {h g : AHeap} {t : TypeId} {a v : Value} (hl : loadA P h t a = some v) : loadA P (h ++ g) t a = some v := by
  unfold loadA at hl ⊢
  split at hl
  · rename_i b o
    cases hb : blkA h b with
    | none => simp [hb] at hl
    | some k =>
      have hb2 : blkA (h ++ g) b = some k := by
        unfold blkA at hb ⊢
        split at hb
        · rename_i hg
          rw [List.getElem?_append_left (List.getElem?_eq_some_iff.1 hg).1, hg]; exact hb
        · cases hb
      rw [hb] at hl
      rw [hb2]; exact hl
  · cases hl
theorem inv_step (hcl : CallLen call) (hcs : CallSim c B call) (hchk : chkA ops = true) (hT : Trace c call n ops (mtF c ops) F H V) {E0 : Env} {w0 : World} {ds : List Deferred} (hfree : Free E0 (H 0) (H ops.size)) {Q : Exit → Act → World → Prop}
    {listed : Array Bool} {a : Act} {w : World} (hinv : Inv c B n ops H V E0 (F 0) w0 ds listed a w) {i : Nat} (hr : i ∈ Region.ready .any ops listed) :
    wpOp c.P ops Q i (Inv c B n ops H V E0 (F 0) w0 ds (listed.setIfInBounds i true)) a w := by
  obtain ⟨hsz, hdc, E, q, hpn, hq1, hq2, hq3, hnew, hn, hval, hds⟩ := hinv
  obtain ⟨hun, o, ho, hdeps⟩ := mem_ready.1 hr
  have hi : i < ops.size := (Array.getElem?_eq_some_iff.1 ho).1
  have hil : i < listed.size := by omega
  have huni : listed.getD i false = false := by
    rw [Array.getD_eq_getD_getElem?] at hun ⊢
    rw [Array.getElem?_eq_getElem hil] at hun ⊢
    simpa using hun
  have hnl : ¬ listed.getD i false = true := by rw [huni]; simp
  have hset := list_set (listed := listed) hil
  have hdc' : DC ops (listed.setIfInBounds i true) := by
    intro j p hp hj e he hb
    rw [hset] at hj ⊢
    rcases hj with hj | rfl
    · exact .inl (hdc j p hp hj e he hb)
    · rw [ho] at hp; cases hp; exact .inl (hdeps e he hb)
  obtain ⟨hk1, hk2, hk3, hk4⟩ := chk_at hchk ho
  -- what comes behind i has not come up
  have hafter : ∀ k, i ∈ (ancA ops.toList []).getD k [] → ¬ listed.getD k false = true := fun k hk hl => hnl (dc_anc hdc hl hk)
  have hahead : ∀ k, k ≠ i → k ∈ (ancA ops.toList []).getD i [] → listed.getD k false = true := fun k hne hk => (dc_anc_ready hdc ho hdeps hk).resolve_right hne
  have hlook : ∀ t, t ∈ o.looksAt ops → ∀ k, k ≤ ops.size → Fv ops (F 0) V listed k t = fget (F (min k i)) t := by
    intro t ht k
    induction k with
    | zero => intro _; simp [Fv]
    | succ k ih =>
      intro hk
      obtain ⟨p, hp⟩ := at_some (ops := ops) (i := k) (by omega)
      have hpd : (ops[k]?).bind (·.dst) = p.dst := by rw [hp]; rfl
      simp only [Fv, hpd]
      by_cases hki : k < i
      · rw [show min (k + 1) i = k + 1 by omega, put_get (hT.step k p hp).1 t]
        by_cases hd : p.dst = some t
        · have hnap := (apart_of (ops := ops) p o hd (.inl ht)).1
          have hl := hahead k (by omega) ((hk4 k p hki hp).resolve_left (by rw [hnap]; simp))
          rw [if_pos ⟨hl, hd⟩, if_pos hd]
        · rw [if_neg (fun hh => hd hh.2), if_neg hd, ih (by omega), show min k i = k by omega]
      · rw [show min (k + 1) i = i by omega, if_neg, ih (by omega), show min k i = i by omega]
        rintro ⟨hl, hd⟩
        by_cases hke : k = i
        · subst hke; exact hnl hl
        · have hnap := (apart_of (ops := ops) p o hd (.inl ht)).2
          exact hafter k (((chk_at hchk hp).2.2.2 i o (by omega) ho).resolve_left (by rw [hnap]; simp)) hl
  have hFvnew : ∀ t k, k ≤ ops.size → Fv ops (F 0) V (listed.setIfInBounds i true) k t = if i < k ∧ o.dst = some t then V i else Fv ops (F 0) V listed k t := by
    intro t k
    induction k with
    | zero => intro _; simp [Fv]
    | succ k ih =>
      intro hk
      obtain ⟨p, hp⟩ := at_some (ops := ops) (i := k) (by omega)
      have hpd : (ops[k]?).bind (·.dst) = p.dst := by rw [hp]; rfl
      simp only [Fv, hpd]
      rw [ih (by omega)]
      by_cases hke : k = i
      · subst hke
        rw [ho] at hp; cases hp
        have h1 : (listed.setIfInBounds k true).getD k false = true := (hset k).2 (.inr rfl)
        simp only [h1, true_and, Nat.lt_irrefl, false_and, if_false, Nat.lt_succ_self, huni, Bool.false_eq_true]
      · have h1 : ((listed.setIfInBounds i true).getD k false = true) = (listed.getD k false = true) := by
          rw [eq_iff_iff, hset]; exact ⟨fun h => h.resolve_right hke, .inl⟩
        simp only [h1]
        by_cases hl : listed.getD k false = true ∧ p.dst = some t
        · rw [if_pos hl, if_pos hl, if_neg]
          rintro ⟨h2, h3⟩
          have hnap := (apart_of (ops := ops) p o hl.2 (.inr h3)).2
          exact hafter k (((chk_at hchk hp).2.2.2 i o (by omega) ho).resolve_left (by rw [hnap]; simp)) hl.1
        · rw [if_neg hl, if_neg hl]
          by_cases h2 : i < k ∧ o.dst = some t
          · rw [if_pos h2, if_pos ⟨by omega, h2.2⟩]
          · rw [if_neg h2, if_neg (fun h3 => h2 ⟨by omega, h3.2⟩)]
  have hFR : FR E n (pick (o.looksAt ops) (F i)) (pickAct (o.looksAt ops) a).tmps := by
    refine pick_FR hn fun t ht => ?_
    have h1 := hval t
    rw [hlook t ht ops.size (Nat.le_refl _), show min ops.size i = i by omega] at h1
    exact h1
  have hwant : Region.wanted o (yielded ops a.tmps) = wantA ops (F i) o := by
    rw [← wanted_pick, want_sim hFR, want_pick]
  obtain ⟨hput, hs⟩ := hT.step i o ho
  have hdst : ∀ d, o.dst = some d → d < a.tmps.size := by
    intro d hd
    rw [hd] at hput
    simp only [putA] at hput
    by_cases h1 : d < n
    · exact Nat.lt_of_lt_of_le h1 hn
    · rw [if_neg h1] at hput; cases hput
  -- what the temporaries hold behind it
  have hvals : ∀ E' v', E.le E' → VR E' (V i) v' → ∀ t, VR E' (Fv ops (F 0) V (listed.setIfInBounds i true) ops.size t) ((a.put o.dst v').tmps.getD t undef) := by
    intro E' v' hle hv t
    rw [hFvnew t ops.size (Nat.le_refl _), put_tmps hdst]
    by_cases hd : o.dst = some t
    · rw [if_pos ⟨hi, hd⟩, if_pos hd]; exact hv
    · rw [if_neg (fun h => hd h.2), if_neg hd]; exact (hval t).mono hle
  have hfin : ∀ E' q' v' w', PN c.G B E0 E' (H 0) (H q') w0 w' → q' ≤ ops.size → (∀ j, j < q' → Mu H j → (listed.setIfInBounds i true).getD j false = true) → (q' < ops.size → Mu H q' ∧ (listed.setIfInBounds i true).getD q' false = false) →
      (∀ id, E' id ≠ E id → (H i).length ≤ id ∧ id < (H (i + 1)).length) → E.le E' → VR E' (V i) v' → Inv c B n ops H V E0 (F 0) w0 ds (listed.setIfInBounds i true) (a.put o.dst v') w' := by
    intro E' q' v' w' h1 h2 h3 h4 h5 h6 h7
    refine ⟨by simpa using hsz, hdc', E', q', h1, h2, h3, h4, fun id hid => ?_, ?_, hvals E' v' h6 h7, ?_⟩
    · by_cases hh : E' id = E id
      · rw [hh] at hid
        obtain ⟨j, g1, g2, g3⟩ := hnew id hid
        exact ⟨j, g1, (hset j).2 (.inl g2), g3⟩
      · exact ⟨i, hi, (hset i).2 (.inr rfl), h5 id hh⟩
    · cases hd : o.dst with
      | none => simpa [Act.put] using hn
      | some d => simpa [Act.put] using hn
    · cases hd : o.dst <;> simpa [Act.put] using hds
  have hkeepq : ∀ (hne : i ≠ q), (∀ j, j < q → Mu H j → (listed.setIfInBounds i true).getD j false = true) ∧ (q < ops.size → Mu H q ∧ (listed.setIfInBounds i true).getD q false = false) := by
    intro hne
    refine ⟨fun j hj hm => (hset j).2 (.inl (hq2 j hj hm)), fun hlt => ⟨(hq3 hlt).1, ?_⟩⟩
    have h1 := (hq3 hlt).2
    cases hh : (listed.setIfInBounds i true).getD q false with
    | false => rfl
    | true =>
      rcases (hset q).1 hh with h2 | h2
      · rw [h1] at h2; cases h2
      · exact absurd h2.symm hne
  unfold wpOp
  simp only [ho, hwant]
  rcases hs with ⟨hw1, hop, hx⟩ | ⟨hw1, hv0, hh0⟩
  · rw [if_pos hw1]
    refine .inl ?_
    have hcongr : ∀ hh, evOp c call (pick (o.looksAt ops) (F i)) o.op hh = evOp c call (F i) o.op hh := fun hh => evOp_congr o.op (fun x hx => evA_pick fun t ht => looks_op (by rw [← ht]; exact hx)) hh
    have hexec : execOp a.eval o = execOp (pickAct (o.looksAt ops) a).eval o := execOp_congr o hk2 fun x hx => (eval_pick fun t ht => looks_op (by rw [← ht]; exact hx)).symm
    cases hpure : pureOp o.op with
    | true =>
      obtain ⟨h1, h2⟩ := pure_any (hh := H q) hpure hop
      have hne : i ≠ q := by
        intro hh
        subst hh
        exact absurd ⟨[], by simp [h2]⟩ (hq3 hi).1
      refine op_sim hcs hFR hpn.sim (fun id g1 g2 => by omega) ((hcongr _).trans h1) hexec fun E' v' w' hp hv => ?_
      exact hfin E' q v' w' (hpn.step (.of_post hp)) hq1 (hkeepq hne).1 (hkeepq hne).2 (fun id hid => by have := hp.new id hid; omega) hp.le hv
    | false =>
      have hnp : pureAt ops i = false := by simp [pureAt, ho, hpure]
      -- i is not behind q
      have hiq : i ≤ q := by
        rcases Nat.lt_or_ge q i with h1 | h1
        · have hqm := hq3 (by omega)
          rcases (mu_ord hT (by omega) hqm.1).2 i hi (by omega) hnp with g | g
          · have := hahead q (by omega) (g.2 h1)
            rw [hqm.2] at this; cases this
          · omega
        · exact h1
      have hfreei : Free E (H i) (H (i + 1)) := by
        intro id g1 g2
        by_cases hh : E id = E0 id
        · rw [hh]
          exact hfree id (Nat.le_trans (len_le hcl hT (Nat.zero_le i) (by omega)) g1) (Nat.lt_of_lt_of_le g2 (len_le hcl hT (by omega) (Nat.le_refl _)))
        · obtain ⟨j, j1, j2, j3, j4⟩ := hnew id hh
          rcases Nat.lt_trichotomy i j with h1 | h1 | h1
          · have := len_le hcl hT (i := i + 1) (j := j) (by omega) (by omega); omega
          · subst h1; exact absurd j2 hnl
          · have := len_le hcl hT (i := j + 1) (j := i) (by omega) (by omega); omega
      by_cases hmu : Mu H i
      · have hiq' : i = q := by
          rcases Nat.lt_or_ge i q with h1 | h1
          · exact absurd (hq2 i h1 hmu) hnl
          · omega
        subst hiq'
        have hmt := (mu_ord hT hi hmu).2
        refine op_sim hcs hFR hpn.sim hfreei ((hcongr _).trans hop) hexec fun E' v' w' hp hv => ?_
        obtain ⟨q', c1, c2, c3, c4⟩ := next_mu (H := H) ops.size (ops.size - (i + 1)) (i + 1) (by omega)
        obtain ⟨t, ht⟩ := chain_le (H := H) c1 c3
        have hbehind : ∀ j, i < j → j < ops.size → pureAt ops j = false → ¬ listed.getD j false = true := fun j h1 h2 h3 => by
          rcases hmt j h2 (by omega) h3 with g | g
          · exact hafter j (g.2 h1)
          · omega
        have hpn' : PN c.G B E0 E' (H 0) (H q') w0 w' := by
          rw [ht]
          refine (hpn.step (.of_post hp)).longer fun id g1 g2 => ?_
          rw [← ht] at g2
          have he' : E' id = E id := by
            by_cases hh : E' id = E id
            · exact hh
            · have := (hp.new id hh).2; omega
          rw [he']
          by_cases hh : E id = E0 id
          · rw [hh]
            exact hfree id (Nat.le_trans (len_le hcl hT (Nat.zero_le (i + 1)) (by omega)) g1) (Nat.lt_of_lt_of_le g2 (len_le hcl hT c2 (Nat.le_refl _)))
          · obtain ⟨j, j1, j2, j3, j4⟩ := hnew id hh
            have hji : i < j := by
              rcases Nat.lt_or_ge i j with h1 | h1
              · exact h1
              · have := len_le hcl hT (i := j + 1) (j := i + 1) (by omega) (by omega); omega
            have hjp := turn_pure hT j1 (fun hh => by rw [hh] at j4; omega)
            exact absurd j2 (hbehind j hji j1 hjp)
        refine hfin E' q' v' w' hpn' c2 (fun j hj hm => ?_) (fun hlt => ⟨c4 hlt, ?_⟩) hp.new hp.le hv
        · rcases Nat.lt_trichotomy j i with h1 | h1 | h1
          · exact (hset j).2 (.inl (hq2 j h1 hm))
          · exact (hset j).2 (.inr h1)
          · exact absurd hm (c3 j (by omega) hj)
        · cases hh : (listed.setIfInBounds i true).getD q' false with
          | false => rfl
          | true =>
            rcases (hset q').1 hh with h2 | h2
            · exact absurd h2 (hbehind q' (by omega) hlt (mu_ord hT hlt (c4 hlt)).1)
            · omega
      · have hne : i ≠ q := by
          intro hh; subst hh; exact hmu (hq3 hi).1
        by_cases hex : ∃ k, i + 1 ≤ k ∧ k < q ∧ Mu H k
        · -- a load; some steps that it isn't ordered against have come up already
          have hflex : ∀ k, i + 1 ≤ k → k < q → Mu H k → FlexJ c ops F H i k := fun k h1 h2 hm => by
            rcases (mu_ord hT (by omega) hm).2 i hi (by omega) hnp with g | g
            · exact absurd (hq2 k h2 hm) (hafter k (g.1 (by omega)))
            · exact g.2
          obtain ⟨k0, hk01, hk02, hk03⟩ := hex
          obtain ⟨_, o', t, x, ho', hopx, _⟩ := hflex k0 hk01 hk02 hk03
          rw [ho] at ho'; cases ho'
          have hfr : ∀ k, looksFree ops i k = true → i ≤ k → k ≤ ops.size → ∀ u, u ∈ o.looksAt ops → fget (F k) u = fget (F i) u := by
            intro k
            induction k with
            | zero => intro _ h1 _ u _; rw [show i = 0 by omega]
            | succ k ih =>
              intro hlf h1 h2 u hu
              by_cases hki : k + 1 = i
              · rw [hki]
              · have hlf' : looksFree ops i k = true := by
                  refine List.all_eq_true.2 fun p hp => List.all_eq_true.1 hlf p (List.mem_range.2 ?_)
                  have := List.mem_range.1 hp; omega
                obtain ⟨p, hp⟩ := at_some (ops := ops) (i := k) (by omega)
                have h3 := List.all_eq_true.1 hlf k (List.mem_range.2 (by omega))
                simp only [hp, ho, Bool.or_eq_true, decide_eq_true_eq] at h3
                rw [put_get (hT.step k p hp).1 u, ih hlf' (by omega) (by omega) u hu, if_neg]
                intro hd
                rcases h3 with h3 | h3
                · omega
                · rw [hd] at h3
                  simp only [Bool.not_eq_true', List.contains_eq_mem, decide_eq_false_iff_not] at h3
                  exact h3 hu
          have hcells : ∃ a, evA c (F i) x = some a ∧ loadA c.P (H i) t a = some (V i) ∧ H (i + 1) = H i := by
            have h1 := hop
            rw [hopx] at h1
            simp only [evOp, pureOp, Bool.false_eq_true, if_false] at h1
            split at h1
            · rename_i a ha
              simp only [Option.map_eq_some_iff, Prod.mk.injEq] at h1
              obtain ⟨y, h2, h3, h4⟩ := h1
              exact ⟨a, ha, by rw [h2, h3], h4.symm⟩
            · cases h1
          obtain ⟨ad, had, hld, hHi⟩ := hcells
          have hload : ∀ d, i + d ≤ q → loadA c.P (H (i + d)) t ad = some (V i) := by
            intro d
            induction d with
            | zero => intro _; exact hld
            | succ d ih =>
              intro hd
              have h1 := ih (by omega)
              by_cases hm : Mu H (i + d)
              · have hd0 : d ≠ 0 := by intro e; subst e; exact hmu hm
                obtain ⟨g1, o', t', x', g2, g3, g4⟩ := hflex (i + d) (by omega) (by omega) hm
                rw [ho] at g2; cases g2
                rw [hopx] at g3; cases g3
                have hfk := hfr (i + d) g1 (by omega) (by omega)
                have hev : evA c (F (i + d)) x = evA c (F i) x := by
                  cases x with
                  | tmp u => simp only [evA]; rw [hfk u (looks_op (by rw [hopx]; simp [Op.operands]))]
                  | _ => rfl
                have hwa : wantA ops (F (i + d)) o = wantA ops (F i) o := by
                  unfold wantA
                  cases hg : o.guard with
                  | none => rfl
                  | some jw =>
                    obtain ⟨j, want⟩ := jw
                    simp only
                    cases hdd : (ops[j]?).bind (·.dst) with
                    | none => rfl
                    | some u =>
                      have hu : u ∈ o.looksAt ops := by simp [Oper.looksAt, hg, hdd]
                      simp only [hfk u hu]
                rcases g4 with g4 | ⟨a', g4, g5⟩
                · rw [hwa, hw1] at g4; cases g4
                · rw [hev, had] at g4; cases g4
                  rw [← Nat.add_assoc, ← g5]; exact h1
              · obtain ⟨tt, htt⟩ := Classical.not_not.1 hm
                rw [← Nat.add_assoc, htt]
                exact loadA_app h1
          have hlq := hload (q - i) (by omega)
          rw [show i + (q - i) = q by omega] at hlq
          have hopq : evOp c call (F i) o.op (H q) = some (V i, H q) := by
            rw [hopx]
            simp only [evOp, pureOp, Bool.false_eq_true, if_false, had, hlq, Option.map_some]
          refine op_sim hcs hFR hpn.sim (fun id g1 g2 => by omega) ((hcongr _).trans hopq) hexec fun E' v' w' hp hv => ?_
          exact hfin E' q v' w' (hpn.step (.of_post hp)) hq1 (hkeepq hne).1 (hkeepq hne).2 (fun id hid => by have := hp.new id hid; omega) hp.le hv
        · have hnomu : ∀ k, i + 1 ≤ k → k < q → ¬ Mu H k := fun k h1 h2 hm => hex ⟨k, h1, h2, hm⟩
          obtain ⟨t1, ht1⟩ := Classical.not_not.1 hmu
          obtain ⟨t2, ht2⟩ := chain_le (H := H) (i := i + 1) (j := q) (by omega) hnomu
          have hHq : H q = H i ++ t1 ++ t2 := by rw [ht2, ht1]
          have hsq : Sim c.G B E (H i ++ t1 ++ t2) w := by rw [← hHq]; exact hpn.sim
          have hsi : Sim c.G B E (H i) w := by
            have := hsq
            rw [List.append_assoc] at this
            exact this.shorter
          refine op_sim hcs hFR hsi hfreei ((hcongr _).trans hop) hexec fun E' v' w' hp hv => ?_
          have hins : PN c.G B E E' (H q) (H q) w w' := by
            rw [hHq]
            exact PN.insert hsq (by rw [← ht1]; exact hp)
          exact hfin E' q v' w' (hpn.step hins) hq1 (hkeepq hne).1 (hkeepq hne).2 hp.new hp.le hv
  · rw [if_neg (by rw [hw1]; simp)]
    have hne : i ≠ q := by
      intro hh
      subst hh
      exact absurd ⟨[], by simp [hh0]⟩ (hq3 hi).1
    refine hfin E q undef w hpn hq1 (hkeepq hne).1 (hkeepq hne).2 (fun id hid => absurd rfl hid) (Env.le.refl E) ?_
    rw [hv0]; exact VR.undef E
/-- How many operations have not come up. -/
def cntU (m : Nat) (listed : Array Bool) : Nat := ((List.range m).filter fun j => !listed.getD j false).length
theorem filter_set {m : Nat} {listed : Array Bool} {i : Nat} (hi : i < m) (hl : i < listed.size) (hun : listed.getD i false = false) : cntU m (listed.setIfInBounds i true) + 1 = cntU m listed := by
  unfold cntU
  have key : ∀ (l : List Nat), l.Nodup → (i ∈ l → (l.filter fun j => !(listed.setIfInBounds i true).getD j false).length + 1 = (l.filter fun j => !listed.getD j false).length) ∧
      (i ∉ l → (l.filter fun j => !(listed.setIfInBounds i true).getD j false).length = (l.filter fun j => !listed.getD j false).length) := by
    intro l
    induction l with
    | nil => intro _; simp
    | cons x l ih =>
      intro hnd
      obtain ⟨h1, h2⟩ := List.nodup_cons.1 hnd
      obtain ⟨i1, i2⟩ := ih h2
      by_cases hx : x = i
      · subst hx
        have e1 : (listed.setIfInBounds x true).getD x false = true := (list_set hl x).2 (.inr rfl)
        refine ⟨fun _ => ?_, fun hh => absurd (by simp) hh⟩
        simp only [List.filter_cons, e1, hun, Bool.not_true, Bool.not_false, Bool.false_eq_true, if_false, if_true, List.length_cons]
        rw [i2 h1]
      · have e1 : (listed.setIfInBounds i true).getD x false = listed.getD x false := by
          rw [Bool.eq_iff_iff, list_set hl]; exact ⟨fun h => h.resolve_right hx, .inl⟩
        refine ⟨fun hh => ?_, fun hh => ?_⟩
        · have hm : i ∈ l := (List.mem_cons.1 hh).resolve_left (fun h => hx h.symm)
          simp only [List.filter_cons, e1]
          split
          · simp only [List.length_cons]; rw [← i1 hm]
          · exact i1 hm
        · have hm : i ∉ l := fun h => hh (List.mem_cons_of_mem _ h)
          simp only [List.filter_cons, e1]
          split
          · simp only [List.length_cons]; rw [i2 hm]
          · exact i2 hm
  exact (key (List.range m) List.nodup_range).1 (List.mem_range.2 hi)
theorem cnt_zero {m : Nat} {listed : Array Bool} (h : cntU m listed = 0) : ∀ j, j < m → listed.getD j false = true := by
  intro j hj
  unfold cntU at h
  have := List.eq_nil_of_length_eq_zero h
  rw [List.filter_eq_nil_iff] at this
  have h2 := this j (List.mem_range.2 hj)
  simpa using h2
theorem inv_end (hcl : CallLen call) (hT : Trace c call n ops (mtF c ops) F H V) {E0 : Env} {w0 : World} {ds : List Deferred} {Q : Exit → Act → World → Prop}
    (hQ : ∀ E' a' w', Post c.G B E0 E' (H 0) (H ops.size) w0 w' → FR E' n (F ops.size) a'.tmps → a'.defers = ds → Q .normal a' w') {listed : Array Bool} {a : Act} {w : World} (hinv : Inv c B n ops H V E0 (F 0) w0 ds listed a w)
    (hall : ∀ j, j < ops.size → listed.getD j false = true) : Q .normal a w := by
  obtain ⟨hsz, hdc, E, q, hpn, hq1, hq2, hq3, hnew, hn, hval, hds⟩ := hinv
  have hqm : q = ops.size := by
    rcases Nat.lt_or_ge q ops.size with h1 | h1
    · have := (hq3 h1).2; rw [hall q h1] at this; cases this
    · omega
  subst hqm
  refine hQ E a w ⟨hpn.le, len_le hcl hT (Nat.zero_le _) (Nat.le_refl _), fun id hid => ?_, hpn.sim, hpn.os, hpn.tape, hpn.output, hpn.size, hpn.frame, hpn.wr, hpn.fresh⟩ ⟨hn, fun t => ?_⟩ hds
  · obtain ⟨j, j1, j2, j3, j4⟩ := hnew id hid
    exact ⟨Nat.le_trans (len_le hcl hT (Nat.zero_le j) (by omega)) j3, Nat.lt_of_lt_of_le j4 (len_le hcl hT (by omega) (Nat.le_refl _))⟩
  · have h1 := hval t
    have key : ∀ k, k ≤ ops.size → Fv ops (F 0) V listed k t = fget (F k) t := by
      intro k
      induction k with
      | zero => intro _; rfl
      | succ k ih =>
        intro hk
        obtain ⟨p, hp⟩ := at_some (ops := ops) (i := k) (by omega)
        have hpd : (ops[k]?).bind (·.dst) = p.dst := by rw [hp]; rfl
        simp only [Fv, hpd]
        rw [put_get (hT.step k p hp).1 t, ih (by omega)]
        simp only [hall k (by omega), true_and]
    rw [key _ (Nat.le_refl _)] at h1
    exact h1
theorem any_sim (hcl : CallLen call) (hcs : CallSim c B call) (hchk : chkA ops = true) (hT : Trace c call n ops (mtF c ops) F H V) {E0 : Env} {w0 : World} {ds : List Deferred} (hfree : Free E0 (H 0) (H ops.size)) {Q : Exit → Act → World → Prop}
    (hQ : ∀ E' a' w', Post c.G B E0 E' (H 0) (H ops.size) w0 w' → FR E' n (F ops.size) a'.tmps → a'.defers = ds → Q .normal a' w') :
    ∀ (fuel : Nat) (listed : Array Bool) (a : Act) (w : World), cntU ops.size listed = fuel → Inv c B n ops H V E0 (F 0) w0 ds listed a w → wpAny c.P .any ops Q fuel listed a w
  | 0, listed, a, w, hc, hinv => by
    have hall := cnt_zero hc
    refine ⟨?_, inv_end hcl hT hQ hinv hall⟩
    rw [List.eq_nil_iff_forall_not_mem]
    intro j hj
    obtain ⟨h1, o, ho, _⟩ := mem_ready.1 hj
    have hjm : j < ops.size := (Array.getElem?_eq_some_iff.1 ho).1
    have h2 := hall j hjm
    have hjl : j < listed.size := by rw [hinv.1]; exact hjm
    rw [Array.getD_eq_getD_getElem?, Array.getElem?_eq_getElem hjl] at h1 h2
    simp at h1 h2
    rw [h1] at h2; cases h2
  | fuel + 1, listed, a, w, hc, hinv => by
    refine ⟨fun hempty => ?_, fun i hi => ?_⟩
    · -- the first operation that has not come up could come up
      refine inv_end hcl hT hQ hinv ?_
      intro j
      induction j using Nat.strongRecOn with
      | _ j ih =>
        intro hj
        cases hh : listed.getD j false with
        | true => rfl
        | false =>
          obtain ⟨o, ho⟩ := at_some hj
          have hjl : j < listed.size := by rw [hinv.1]; exact hj
          have hready : j ∈ Region.ready .any ops listed := by
            refine mem_ready.2 ⟨?_, o, ho, fun e he hb => ih e.on ((chk_at hchk ho).2.2.1 e he hb) (Nat.lt_trans ((chk_at hchk ho).2.2.1 e he hb) hj)⟩
            rw [Array.getD_eq_getD_getElem?, Array.getElem?_eq_getElem hjl] at hh ⊢
            exact hh
          rw [hempty] at hready
          cases hready
    · obtain ⟨h1, o, ho, _⟩ := mem_ready.1 hi
      have him : i < ops.size := (Array.getElem?_eq_some_iff.1 ho).1
      have hil : i < listed.size := by rw [hinv.1]; exact him
      have hun : listed.getD i false = false := by
        rw [Array.getD_eq_getD_getElem?, Array.getElem?_eq_getElem hil] at h1 ⊢
        exact h1
      have hcnt := filter_set him hil hun
      exact wpOp_mono (fun a' w' hv => any_sim hcl hcs hchk hT hfree hQ fuel _ a' w' (by omega) hv) (inv_step (Q := Q) hcl hcs hchk hT hfree hinv hi)
end
theorem draw_sim {c : Ctx} {B : Nat} {call : CallF} {n : Nat} (hm : c.P.follows .mixedOrders = true) (hcl : CallLen call) (hcs : CallSim c B call) {ops : Array Oper} (hchk : chkA ops = true) {id : Nat} {E : Env} {fr fr' : AFrame} {h h' : AHeap} {a : Act} {w : World} {Q : Exit → Act → World → Prop}
    (he : evDraw c call n ops (mtF c ops) ops.toList 0 fr h = some (fr', h')) (hf : FR E n fr a.tmps) (s : Sim c.G B E h w) (hfree : Free E h h')
    (hQ : ∀ E' a' w', Post c.G B E E' h h' w w' → FR E' n fr' a'.tmps → a'.defers = a.defers → Q .normal a' w') : (Code.region id ops true).wp c.P Q a w := by
  obtain ⟨F, H, V, f0, h0, fm, hmm, hs⟩ := trace_of ops _ _ _ _ _ _ _ he
  rw [Array.length_toList] at fm hmm
  have hT : Trace c call n ops (mtF c ops) F H V := ⟨fun i o ho => by have := hs i o (by simpa using ho); simpa [mtA] using this⟩
  subst f0; subst h0; subst fm; subst hmm
  refine wp_region_any hm ?_
  have hpost : Post c.G B E E (H 0) (H 0) w { w with drawn := w.drawn + 1 } := Post.of_drew s rfl rfl rfl rfl
  obtain ⟨q, c1, c2, c3, c4⟩ := next_mu (H := H) ops.size ops.size 0 (by omega)
  obtain ⟨t, ht⟩ := chain_le (H := H) c1 c3
  have hrep : ∀ j, (Array.replicate ops.size false).getD j false = false := fun j => by
    rw [Array.getD_eq_getD_getElem?, Array.getElem?_replicate]; split <;> rfl
  have hdc0 : DC ops (Array.replicate ops.size false) := fun j o _ hj => by rw [hrep] at hj; cases hj
  refine any_sim (E0 := E) (w0 := w) (ds := a.defers) hcl hcs hchk hT hfree hQ ops.size _ a _ ?_ ?_
  · unfold cntU
    rw [List.filter_eq_self.2 (fun j _ => by rw [hrep]; rfl)]
    simp
  · refine ⟨by simp, hdc0, E, q, ?_, c2, fun j hj hmu => absurd hmu (c3 j (Nat.zero_le _) hj), fun hlt => ⟨c4 hlt, hrep q⟩, fun id hid => absurd rfl hid, hf.1, fun t => ?_, rfl⟩
    · rw [ht]
      refine (PN.of_post hpost).longer fun id g1 g2 => ?_
      rw [← ht] at g2
      exact hfree id g1 (Nat.lt_of_lt_of_le g2 (len_le hcl hT c2 (Nat.le_refl _)))
    · have key : ∀ k, Fv ops (F 0) V (Array.replicate ops.size false) k t = fget (F 0) t := by
        intro k
        induction k with
        | zero => rfl
        | succ k ih => simp only [Fv, hrep, Bool.false_eq_true, false_and, if_false, ih]
      rw [key]
      exact hf.2 t
end Go.Abs
