/- PcS: captures in plain Lean: what the code computes. Conditions: none. -/
import Derived.Test.YtgbhhkcppmikcaaPc1
set_option linter.unusedVariables false
set_option linter.unusedSimpArgs false
set_option maxRecDepth 100000
namespace Go.Abs
/-- The lowest k bytes of n, the highest of them first. -/
def be (n : Nat) : Nat → List UInt8
  | 0 => []
  | k + 1 => UInt8.ofNat (n / 256 ^ k) :: be n k
theorem be_len (n k : Nat) : (be n k).length = k := by induction k <;> simp [be, *]
def val (l : List UInt8) : Nat := l.foldl (fun n b => n * 256 + b.toNat) 0
theorem val_append (a b : List UInt8) : val (a ++ b) = val a * 256 ^ b.length + val b := by
  have key : ∀ (b : List UInt8) (n : Nat), b.foldl (fun n b => n * 256 + b.toNat) n = n * 256 ^ b.length + b.foldl (fun n b => n * 256 + b.toNat) 0 := by
    intro b
    induction b with
    | nil => intro n; simp
    | cons x b ih =>
      intro n
      simp only [List.foldl_cons, List.length_cons]
      rw [ih (n * 256 + x.toNat), ih (0 * 256 + x.toNat)]
      rw [Nat.zero_mul, Nat.zero_add, Nat.add_mul, Nat.pow_succ, Nat.mul_assoc, Nat.mul_comm 256, Nat.add_assoc]
  unfold val
  rw [List.foldl_append]
  exact key b _
theorem val_lt (l : List UInt8) : val l < 256 ^ l.length := by
  induction l with
  | nil => simp [val]
  | cons x l ih =>
    have h := val_append [x] l
    simp only [List.cons_append, List.nil_append] at h
    rw [h, List.length_cons, Nat.pow_succ]
    have hx := x.toNat_lt
    have h1 : val [x] = x.toNat := by simp [val]
    rw [h1]
    have : x.toNat * 256 ^ l.length ≤ 255 * 256 ^ l.length := Nat.mul_le_mul_right _ (by omega)
    omega
theorem val_be (n k : Nat) : val (be n k) = n % 256 ^ k := by
  induction k with
  | zero => simp [be, val, Nat.mod_one]
  | succ k ih =>
    have h := val_append [UInt8.ofNat (n / 256 ^ k)] (be n k)
    simp only [List.cons_append, List.nil_append] at h
    rw [be, h, ih, be_len]
    have h1 : val [UInt8.ofNat (n / 256 ^ k)] = n / 256 ^ k % 256 := by simp [val]
    rw [h1, Nat.pow_succ, Nat.mod_mul, Nat.mul_comm, Nat.add_comm]
theorem be_val (l : List UInt8) : be (val l) l.length = l := by
  induction l with
  | nil => rfl
  | cons x l ih =>
    have h := val_append [x] l
    simp only [List.cons_append, List.nil_append] at h
    have h1 : val [x] = x.toNat := by simp [val]
    have hl := val_lt l
    rw [List.length_cons, be, h, h1]
    have e1 : (x.toNat * 256 ^ l.length + val l) / 256 ^ l.length = x.toNat := by
      rw [Nat.mul_comm, Nat.mul_add_div (Nat.pow_pos (by decide)), Nat.div_eq_of_lt hl, Nat.add_zero]
    have e2 : be (x.toNat * 256 ^ l.length + val l) l.length = be (val l) l.length := by
      have key : ∀ k, k ≤ l.length → be (x.toNat * 256 ^ l.length + val l) k = be (val l) k := by
        intro k
        induction k with
        | zero => intro _; rfl
        | succ k ihk =>
          intro hk
          rw [be, be, ihk (by omega)]
          congr 1
          obtain ⟨d, hd⟩ : ∃ d, l.length = k + 1 + d := ⟨l.length - (k + 1), by omega⟩
          have e3 : x.toNat * 256 ^ l.length = 256 ^ k * (256 * (x.toNat * 256 ^ d)) := by
            rw [hd, Nat.pow_add, Nat.pow_succ]; simp [Nat.mul_assoc, Nat.mul_comm, Nat.mul_left_comm]
          rw [e3, Nat.mul_add_div (Nat.pow_pos (by decide))]
          apply UInt8.toNat_inj.1
          simp only [UInt8.toNat_ofNat']
          omega
      exact key _ (Nat.le_refl _)
    rw [e1, e2, ih]
    simp
structure Seen where
  time : Nat
  node : Nat
  port : Nat
  out : Bool
  bytes : List UInt8
  deriving DecidableEq
def Seen.fine (x : Seen) : Prop := x.time ≤ 1000000000 ∧ x.node < 16 ∧ x.port < 8 ∧ x.bytes.length ≤ 2000
def whereS (x : Seen) : Nat := x.node * 16 + x.port * 2 + if x.out = true then 1 else 0
def front (x : Seen) (last : Nat) : List UInt8 := be (x.time - last) 4 ++ be (whereS x) 2 ++ be x.bytes.length 2 ++ x.bytes
def recS (x : Seen) (last : Nat) : List UInt8 := front x last ++ be (crcSum (front x last)).toNat 4
theorem front_len (x : Seen) (last : Nat) : (front x last).length = 8 + x.bytes.length := by simp [front, be_len]; omega
theorem recS_len (x : Seen) (last : Nat) : (recS x last).length = 12 + x.bytes.length := by simp [recS, front_len, be_len]; omega
def nextS (s : List UInt8) (last : Nat) : Option (Seen × Nat) :=
  if s.length < 12 then none else
  let n := val ((s.drop 6).take 2)
  if n > 2000 ∨ s.length < 12 + n then none else
  let w := val ((s.drop 4).take 2)
  let x : Seen := ⟨last + val (s.take 4), w / 16, w / 2 % 8, decide (w % 2 = 1), (s.drop 8).take n⟩
  if x.time > 1000000000 ∨ x.node ≥ 16 ∨ recS x last ≠ s.take (12 + n) then none else some (x, 12 + n)
def writeS : Nat → List Seen → List UInt8
  | _, [] => []
  | last, x :: l => recS x last ++ writeS x.time l
def recoverS : Nat → List UInt8 → Nat → List Seen × Nat
  | 0, _, _ => ([], 0)
  | k + 1, s, last => match nextS s last with
    | none => ([], 0)
    | some (x, n) => (x :: (recoverS k (s.drop n) x.time).1, n + (recoverS k (s.drop n) x.time).2)
/-- In order of time, all fine. -/
def chainS : Nat → List Seen → Prop
  | _, [] => True
  | last, x :: l => x.fine ∧ last ≤ x.time ∧ chainS x.time l
theorem whereS_lt {x : Seen} (hx : x.fine) : whereS x < 256 := by
  obtain ⟨_, h2, h3, _⟩ := hx
  unfold whereS
  split <;> omega
/-- The parts of a record's front. -/
theorem parts {x : Seen} {last : Nat} (hx : x.fine) (r : List UInt8) : val ((front x last ++ r).take 4) = x.time - last ∧ val (((front x last ++ r).drop 4).take 2) = whereS x ∧ val (((front x last ++ r).drop 6).take 2) = x.bytes.length ∧ ((front x last ++ r).drop 8).take x.bytes.length = x.bytes := by
  have hw := whereS_lt hx
  obtain ⟨h1, h2, h3, h4⟩ := hx
  have l4 := be_len (x.time - last) 4
  have l2 := be_len (whereS x) 2
  have l2' := be_len x.bytes.length 2
  have e : front x last ++ r = be (x.time - last) 4 ++ (be (whereS x) 2 ++ (be x.bytes.length 2 ++ (x.bytes ++ r))) := by simp [front, List.append_assoc]
  rw [e]
  have d4 : ∀ q, (be (x.time - last) 4 ++ q).drop 4 = q := fun q => by rw [List.drop_append, List.drop_of_length_le (by omega), l4]; simp
  have d2 : ∀ q, (be (whereS x) 2 ++ q).drop 2 = q := fun q => by rw [List.drop_append, List.drop_of_length_le (by omega), l2]; simp
  have d2' : ∀ q, (be x.bytes.length 2 ++ q).drop 2 = q := fun q => by rw [List.drop_append, List.drop_of_length_le (by omega), l2']; simp
  have d6 : ∀ q, (be (x.time - last) 4 ++ (be (whereS x) 2 ++ q)).drop 6 = q := fun q => by
    rw [show (6 : Nat) = 4 + 2 from rfl, ← List.drop_drop, d4, d2]
  have d8 : ∀ q, (be (x.time - last) 4 ++ (be (whereS x) 2 ++ (be x.bytes.length 2 ++ q))).drop 8 = q := fun q => by
    rw [show (8 : Nat) = 6 + 2 from rfl, ← List.drop_drop, d6, d2']
  refine ⟨?_, ?_, ?_, ?_⟩
  · rw [List.take_append_of_le_length (by omega), List.take_of_length_le (by omega), val_be]
    exact Nat.mod_eq_of_lt (by omega)
  · rw [d4, List.take_append_of_le_length (by omega), List.take_of_length_le (by omega), val_be]
    exact Nat.mod_eq_of_lt (by omega)
  · rw [d6, List.take_append_of_le_length (by omega), List.take_of_length_le (by omega), val_be]
    exact Nat.mod_eq_of_lt (by omega)
  · rw [d8, List.take_append_of_le_length (by omega), List.take_of_length_le (by omega)]
theorem where_back {x : Seen} (hx : x.fine) : whereS x / 16 = x.node ∧ whereS x / 2 % 8 = x.port ∧ decide (whereS x % 2 = 1) = x.out := by
  obtain ⟨_, h2, h3, _⟩ := hx
  unfold whereS
  cases x.out <;> simp <;> omega
/-- A record is read back, whatever follows. -/
theorem next_rec {x : Seen} {last : Nat} (hx : x.fine) (hl : last ≤ x.time) (r : List UInt8) : nextS (recS x last ++ r) last = some (x, 12 + x.bytes.length) := by
  have hp := parts (last := last) hx (be (crcSum (front x last)).toNat 4 ++ r)
  have e : recS x last ++ r = front x last ++ (be (crcSum (front x last)).toNat 4 ++ r) := by simp [recS, List.append_assoc]
  obtain ⟨p1, p2, p3, p4⟩ := hp
  obtain ⟨w1, w2, w3⟩ := where_back hx
  have hlen : (recS x last ++ r).length = 12 + x.bytes.length + r.length := by rw [List.length_append, recS_len]
  have htk : (recS x last ++ r).take (12 + x.bytes.length) = recS x last := by rw [List.take_append_of_le_length (by rw [recS_len]; exact Nat.le_refl _), List.take_of_length_le (by rw [recS_len]; exact Nat.le_refl _)]
  have q1 : val ((recS x last ++ r).take 4) = x.time - last := by rw [e]; exact p1
  have q2 : val (((recS x last ++ r).drop 4).take 2) = whereS x := by rw [e]; exact p2
  have q3 : val (((recS x last ++ r).drop 6).take 2) = x.bytes.length := by rw [e]; exact p3
  have q4 : ((recS x last ++ r).drop 8).take x.bytes.length = x.bytes := by rw [e]; exact p4
  have ht : last + (x.time - last) = x.time := by omega
  have hx0 : (⟨x.time, x.node, x.port, x.out, x.bytes⟩ : Seen) = x := rfl
  unfold nextS
  rw [if_neg (by omega)]
  simp only
  rw [q1, q2, q3, q4, ht, w1, w2, w3, htk, hlen]
  obtain ⟨h1, h2, h3, h4⟩ := hx
  rw [if_neg (by omega), if_neg (by simp; omega)]
theorem recover_write : ∀ (k : Nat) (l : List Seen) (last : Nat) (r : List UInt8), chainS last l → l.length ≤ k → recoverS k (writeS last l ++ r) last = (l ++ (recoverS (k - l.length) r ((l.getLast?.map (·.time)).getD last)).1, (writeS last l).length + (recoverS (k - l.length) r ((l.getLast?.map (·.time)).getD last)).2)
  | k, [], last, r, _, _ => by simp [writeS]
  | 0, x :: l, last, r, _, h => by simp at h
  | k + 1, x :: l, last, r, hc, hk => by
    obtain ⟨hx, hl, hc⟩ := hc
    simp only [List.length_cons] at hk
    have e : writeS last (x :: l) ++ r = recS x last ++ (writeS x.time l ++ r) := by simp [writeS, List.append_assoc]
    have ed : (recS x last ++ (writeS x.time l ++ r)).drop (12 + x.bytes.length) = writeS x.time l ++ r := by
      rw [List.drop_append, List.drop_of_length_le (by rw [recS_len]; exact Nat.le_refl _), recS_len]; simp
    have ih := recover_write k l x.time r hc (by omega)
    have eg : ((x :: l).getLast?.map (·.time)).getD last = (l.getLast?.map (·.time)).getD x.time := by
      cases l with
      | nil => rfl
      | cons y l =>
        rw [List.getLast?_cons_cons]
        cases hg : (y :: l).getLast? with
        | none => simp at hg
        | some z => rfl
    have ek : k + 1 - (x :: l).length = k - l.length := by simp
    rw [recoverS, e, next_rec hx hl, eg, ek]
    simp only [ed, ih, writeS, List.length_append, recS_len]
    refine Prod.ext rfl ?_
    simp only
    omega
/-- A record that is cut is not read. -/
theorem next_torn {x : Seen} {last : Nat} (hx : x.fine) (n : Nat) (hn : n < 12 + x.bytes.length) (r : List UInt8) : nextS ((recS x last ++ r).take n) last = none := by
  unfold nextS
  have hlen : ((recS x last ++ r).take n).length = n := by rw [List.length_take, List.length_append, recS_len]; omega
  rw [hlen]
  by_cases h12 : n < 12
  · rw [if_pos h12]
  · rw [if_neg h12]
    have e : recS x last ++ r = front x last ++ (be (crcSum (front x last)).toNat 4 ++ r) := by simp [recS, List.append_assoc]
    have hp := (parts (last := last) hx (be (crcSum (front x last)).toNat 4 ++ r)).2.2.1
    have e2 : (((recS x last ++ r).take n).drop 6).take 2 = ((recS x last ++ r).drop 6).take 2 := by
      rw [List.drop_take, List.take_take, Nat.min_eq_left (by omega)]
    rw [e2, e, hp]
    simp only
    rw [if_pos (by omega)]
theorem next_nil (last : Nat) : nextS [] last = none := by simp [nextS]
/-- What is recovered of a capture whose end is missing. -/
theorem recover_torn : ∀ (k : Nat) (l : List Seen) (last n : Nat), chainS last l → l.length ≤ k → n ≤ (writeS last l).length →
    ∃ m, m ≤ l.length ∧ (recoverS k ((writeS last l).take n) last).1 = l.take m ∧ (recoverS k ((writeS last l).take n) last).2 ≤ n ∧ (m = l.length ∨ n < (writeS last (l.take (m + 1))).length)
  | k, [], last, n, _, _, hn => by
    refine ⟨0, Nat.le_refl _, ?_, ?_, .inl rfl⟩ <;> cases k <;> simp [writeS, recoverS, next_nil]
  | 0, x :: l, last, n, _, h, _ => by simp at h
  | k + 1, x :: l, last, n, hc, hk, hn => by
    obtain ⟨hx, hl, hc⟩ := hc
    simp only [List.length_cons] at hk
    by_cases hb : n < 12 + x.bytes.length
    · refine ⟨0, by omega, ?_, ?_, .inr ?_⟩
      · simp only [recoverS, writeS, next_torn hx n hb, List.take_zero]
      · simp only [recoverS, writeS, next_torn hx n hb]; omega
      · simp [writeS, recS_len]; omega
    · have e1 : (writeS last (x :: l)).take n = recS x last ++ (writeS x.time l).take (n - (12 + x.bytes.length)) := by
        rw [writeS, List.take_append, List.take_of_length_le (by rw [recS_len]; omega), recS_len]
      have hlen : (writeS last (x :: l)).length = 12 + x.bytes.length + (writeS x.time l).length := by rw [writeS, List.length_append, recS_len]
      obtain ⟨m, hm, h1, h2, h3⟩ := recover_torn k l x.time (n - (12 + x.bytes.length)) hc (by omega) (by omega)
      have ed : (recS x last ++ (writeS x.time l).take (n - (12 + x.bytes.length))).drop (12 + x.bytes.length) = (writeS x.time l).take (n - (12 + x.bytes.length)) := by
        rw [List.drop_append, List.drop_of_length_le (by rw [recS_len]; exact Nat.le_refl _), recS_len]; simp
      refine ⟨m + 1, by simp; omega, ?_, ?_, ?_⟩
      · rw [recoverS, e1, next_rec hx hl]; simp only [ed, h1, List.take_succ_cons]
      · rw [recoverS, e1, next_rec hx hl]; simp only [ed]; omega
      · rcases h3 with h3 | h3
        · left; simp [h3]
        · right
          rw [List.take_succ_cons, writeS, List.length_append, recS_len]; omega
end Go.Abs
