/- Abs1: the evaluator: the model's code over an abstract heap. Definitions only (and equality of values, decidable). Conditions: none. -/
import Derived.Orders
import Derived.Laws.Sem
set_option linter.unusedVariables false
set_option linter.unusedSimpArgs false
namespace Go.Abs
mutual
def eqV : Value → Value → Bool
  | .bool a, .bool b => a == b
  | .int k n, .int k' n' => decide (k = k') && decide (n = n')
  | .float k n, .float k' n' => decide (k = k') && decide (n = n')
  | .complex k n m, .complex k' n' m' => decide (k = k') && decide (n = n') && decide (m = m')
  | .string s, .string t => decide (s = t)
  | .pointer a, .pointer b => decide (a = b)
  | .slice a n m, .slice b n' m' => decide (a = b) && decide (n = n') && decide (m = m')
  | .map a, .map b => decide (a = b)
  | .chan a, .chan b => decide (a = b)
  | .func f ⟨x⟩ ⟨c⟩, .func g ⟨y⟩ ⟨d⟩ => decide (f = g) && eqL x y && eqL c d
  | .nilFunc, .nilFunc => true
  | .iface t v, .iface u w => decide (t = u) && eqV v w
  | .nilIface, .nilIface => true
  | .agg ⟨x⟩, .agg ⟨y⟩ => eqL x y
  | .tuple ⟨x⟩, .tuple ⟨y⟩ => eqL x y
  | _, _ => false
def eqL : List Value → List Value → Bool
  | [], [] => true
  | a :: x, b :: y => eqV a b && eqL x y
  | _, _ => false
end
mutual
theorem eqV_refl : ∀ a, eqV a a = true
  | .bool a => by simp [eqV]
  | .int k n => by simp [eqV]
  | .float k n => by simp [eqV]
  | .complex k n m => by simp [eqV]
  | .string s => by simp [eqV]
  | .pointer a => by simp [eqV]
  | .slice a n m => by simp [eqV]
  | .map a => by simp [eqV]
  | .chan a => by simp [eqV]
  | .func f ⟨x⟩ ⟨c⟩ => by simp [eqV, eqL_refl x, eqL_refl c]
  | .nilFunc => by simp [eqV]
  | .iface t v => by simp [eqV, eqV_refl v]
  | .nilIface => by simp [eqV]
  | .agg ⟨x⟩ => by simp [eqV, eqL_refl x]
  | .tuple ⟨x⟩ => by simp [eqV, eqL_refl x]
theorem eqL_refl : ∀ a, eqL a a = true
  | [] => by simp [eqL]
  | a :: x => by simp [eqL, eqV_refl a, eqL_refl x]
end
mutual
theorem eqV_eq : ∀ a b, eqV a b = true → a = b
  | .bool a, b, h => by cases b <;> simp_all [eqV]
  | .int k n, b, h => by cases b <;> simp_all [eqV]
  | .float k n, b, h => by cases b <;> simp_all [eqV]
  | .complex k n m, b, h => by cases b <;> simp_all [eqV]
  | .string s, b, h => by cases b <;> simp_all [eqV]
  | .pointer a, b, h => by cases b <;> simp_all [eqV]
  | .slice a n m, b, h => by cases b <;> simp_all [eqV]
  | .map a, b, h => by cases b <;> simp_all [eqV]
  | .chan a, b, h => by cases b <;> simp_all [eqV]
  | .func f ⟨x⟩ ⟨c⟩, b, h => by
    cases b with
    | func g y d => obtain ⟨y⟩ := y; obtain ⟨d⟩ := d; simp only [eqV, Bool.and_eq_true, decide_eq_true_eq] at h; rw [h.1.1, eqL_eq x y h.1.2, eqL_eq c d h.2]
    | _ => simp [eqV] at h
  | .nilFunc, b, h => by cases b <;> simp_all [eqV]
  | .iface t v, b, h => by
    cases b with
    | iface u w => simp only [eqV, Bool.and_eq_true, decide_eq_true_eq] at h; rw [h.1, eqV_eq v w h.2]
    | _ => simp [eqV] at h
  | .nilIface, b, h => by cases b <;> simp_all [eqV]
  | .agg ⟨x⟩, b, h => by
    cases b with
    | agg y => obtain ⟨y⟩ := y; simp only [eqV] at h; rw [eqL_eq x y h]
    | _ => simp [eqV] at h
  | .tuple ⟨x⟩, b, h => by
    cases b with
    | tuple y => obtain ⟨y⟩ := y; simp only [eqV] at h; rw [eqL_eq x y h]
    | _ => simp [eqV] at h
theorem eqL_eq : ∀ a b, eqL a b = true → a = b
  | [], b, h => by cases b <;> simp_all [eqL]
  | a :: x, b, h => by
    cases b with
    | nil => simp [eqL] at h
    | cons b y => simp only [eqL, Bool.and_eq_true] at h; rw [eqV_eq a b h.1, eqL_eq x y h.2]
end
instance : DecidableEq Value := fun a b => decidable_of_iff (eqV a b = true) ⟨eqV_eq a b, fun h => h ▸ eqV_refl a⟩

/-- A block of the abstract heap: its cells; how many cells an element takes; may it not be written. -/
structure Blk where
  cells : List Value
  esz : Nat
  ro : Bool
  deriving DecidableEq
inductive AObj where
  | cells (b : Blk)
  | iter (s : ByteArray) (pos : Nat)
  deriving DecidableEq
/-- The abstract heap; 'none': a block that was appended to and is gone. -/
abbrev AHeap := List (Option AObj)
abbrev AFrame := List Value
def fget : AFrame → Nat → Value
  | [], _ => undef
  | v :: _, 0 => v
  | _ :: l, n + 1 => fget l n
def fset : AFrame → Nat → Value → AFrame
  | [], 0, v => [v]
  | [], n + 1, v => undef :: fset [] n v
  | _ :: l, 0, v => v :: l
  | x :: l, n + 1, v => x :: fset l n v
/-- What the evaluator is told of a program beside its text: where its variables lie in the abstract heap; functions with contracts of their own. -/
structure Ctx where
  P : Program
  G : Nat → Option Nat
  prim : FuncId → Option (List Value → AHeap → Option (Value × AHeap))
abbrev CallF := FuncId → List Value → AHeap → Option (Value × AHeap)
def plainV : Nat → Value → Bool
  | 0, _ => false
  | _ + 1, .bool _ => true
  | _ + 1, .int _ _ => true
  | _ + 1, .float _ _ => true
  | _ + 1, .complex _ _ _ => true
  | _ + 1, .string _ => true
  | _ + 1, .pointer none => true
  | _ + 1, .slice none 0 0 => true
  | _ + 1, .nilFunc => true
  | _ + 1, .nilIface => true
  | k + 1, .iface _ v => plainV k v
  | k + 1, .agg cs => cs.toList.all (plainV k)
  | k + 1, .tuple cs => cs.toList.all (plainV k)
  | k + 1, .func _ xs cs => xs.toList.all (plainV k) && cs.toList.all (plainV k)
  | _ + 1, _ => false
def isAggA (P : Program) (t : TypeId) : Option Bool :=
  match P.underlying t with
  | some (.struct _) => some true
  | some (.array _ _) => some true
  | some _ => some false
  | none => none
def sizeA (P : Program) (t : TypeId) : Option Nat := (P.info? t).map (·.size)
def bytesA (P : Program) (t : TypeId) : Option Nat := (P.info? t).map (·.bytes)
/-- The zero value's cells. -/
def zeroA (P : Program) (t : TypeId) : Option (List Value) :=
  match P.info? t with
  | some i => match i.zero with
    | some v => if v.cells.toList.all (plainV 3) then some v.cells.toList else none
    | none => none
  | none => none
def fieldA (P : Program) (s : TypeId) (i : Nat) : Option (Nat × TypeId) :=
  match P.underlying s with
  | some (.struct fs) => match fs[i]? with
    | some f => some (f.offset, f.type)
    | none => none
  | _ => none
def eszA (P : Program) (t : TypeId) : Option Nat :=
  match P.underlying t with
  | some (.array _ e) => sizeA P e
  | _ => sizeA P t
def evA (c : Ctx) (fr : AFrame) : Operand → Option Value
  | .tmp t => some (fget fr t)
  | .const v => if plainV 4 v then some v else none
  | .global g => (c.G g).map fun id => .pointer (some ⟨id, 0, none⟩)
  | .func f => some (.func (.func f) #[] #[])
def evL (c : Ctx) (fr : AFrame) : List Operand → Option (List Value)
  | [] => some []
  | x :: l => match evA c fr x, evL c fr l with
    | some v, some vs => some (v :: vs)
    | _, _ => none
def blkA (h : AHeap) (b : Nat) : Option Blk :=
  match h[b]? with
  | some (some (.cells k)) => some k
  | _ => none
/-- n cells from o on. -/
def takeA (l : List Value) (o n : Nat) : Option (List Value) := if o + n ≤ l.length then some ((l.drop o).take n) else none
def loadA (P : Program) (h : AHeap) (t : TypeId) (v : Value) : Option Value :=
  match v with
  | .pointer (some ⟨b, o, none⟩) =>
    match blkA h b, isAggA P t, sizeA P t with
    | some k, some true, some n => (takeA k.cells o n).map fun l => .agg l.toArray
    | some k, some false, some _ => k.cells[o]?
    | _, _, _ => none
  | _ => none
def putCells (l : List Value) (o : Nat) : List Value → List Value
  | [] => l
  | v :: vs => putCells (l.set o v) (o + 1) vs
def oneCellA : Value → Bool
  | .agg _ => false
  | .tuple _ => false
  | _ => true
/-- Store cells into a block. -/
def writeA (h : AHeap) (b o : Nat) (vs : List Value) : Option AHeap :=
  match blkA h b with
  | some k => if k.ro = false ∧ o + vs.length ≤ k.cells.length ∧ vs.all oneCellA = true then some (h.set b (some (.cells { k with cells := putCells k.cells o vs }))) else none
  | none => none
def storeA (P : Program) (h : AHeap) (t : TypeId) (a v : Value) : Option AHeap :=
  match a with
  | .pointer (some ⟨b, o, none⟩) => if sizeA P t = some v.cells.size then writeA h b o v.cells.toList else none
  | _ => none
def newA (h : AHeap) (cells : List Value) (esz : Nat) : Nat × AHeap := (h.length, h ++ [some (.cells ⟨cells, esz, false⟩)])
/-- A run that asks nothing of memory and of the tape: its value. -/
def qrun {α : Type} (P : Program) : Sem α → Option α
  | .pure a => some a
  | .program k => qrun P (k P)
  | .mark _ k => qrun P k
  | _ => none
def intBinA (op : BinOp) (k : IntKind) (a b : Int) : Option Value :=
  match op with
  | .add => some (.int k (k.wrap (a + b)))
  | .sub => some (.int k (k.wrap (a - b)))
  | .mul => some (.int k (k.wrap (a * b)))
  | .quo => if b = 0 then none else some (.int k (k.wrap (a.tdiv b)))
  | .rem => if b = 0 then none else some (.int k (a.tmod b))
  | .and => some (.int k (k.wrap (BitVec.ofInt k.bits a &&& BitVec.ofInt k.bits b).toNat))
  | .or => some (.int k (k.wrap (BitVec.ofInt k.bits a ||| BitVec.ofInt k.bits b).toNat))
  | .xor => some (.int k (k.wrap (BitVec.ofInt k.bits a ^^^ BitVec.ofInt k.bits b).toNat))
  | .andNot => some (.int k (k.wrap (BitVec.ofInt k.bits a &&& ~~~(BitVec.ofInt k.bits b)).toNat))
  | .eql => some (.bool (decide (a = b)))
  | .neq => some (.bool (!decide (a = b)))
  | .lss => some (.bool (decide (a < b)))
  | .leq => some (.bool (decide (a ≤ b)))
  | .gtr => some (.bool (decide (a > b)))
  | .geq => some (.bool (decide (a ≥ b)))
  | _ => none
def shiftA (op : BinOp) (k : IntKind) (a b : Int) : Option Value :=
  if b < 0 then none else
  match op with
  | .shl => some (.int k (k.wrap (a * 2 ^ (min b.toNat k.bits))))
  | .shr => some (.int k (a.fdiv (2 ^ (min b.toNat k.bits))))
  | _ => none
def lessA (a b : ByteArray) : Bool := Op.bytesLess a.data.toList b.data.toList
def strBinA (op : BinOp) (a b : ByteArray) : Option Value :=
  match op with
  | .add => if a.size + b.size ≤ 9223372036854775807 then some (.string (a ++ b)) else none
  | .eql => some (.bool (decide (a = b)))
  | .neq => some (.bool (!decide (a = b)))
  | .lss => some (.bool (lessA a b))
  | .leq => some (.bool (lessA a b || decide (a = b)))
  | .gtr => some (.bool (!(lessA a b || decide (a = b))))
  | .geq => some (.bool (!lessA a b))
  | _ => none
def isConstA : Operand → Bool
  | .const _ => true
  | _ => false
/-- Is it nil, is it not: of what can be asked against nil. -/
def nilA : Value → Option Bool
  | .pointer a => some a.isNone
  | .slice a _ _ => some a.isNone
  | .nilFunc => some true
  | .func _ _ _ => some false
  | .nilIface => some true
  | .iface _ _ => some false
  | _ => none
/-- May this type's values be asked against nil, as these values are. -/
def nilType (P : Program) (t : TypeId) (v : Value) : Bool :=
  match P.underlying t, v with
  | some (.pointer _), .pointer _ => true
  | some (.slice _), .slice _ _ _ => true
  | some (.func _ _ _), .nilFunc => true
  | some (.func _ _ _), .func _ _ _ => true
  | some (.interface _), .nilIface => true
  | some (.interface _), .iface _ _ => true
  | _, _ => false
def eqNilA (P : Program) (t : TypeId) (cx cy : Bool) (x y : Value) : Option Bool :=
  if nilType P t x = true ∧ nilType P t y = true ∧ (cx = true ∨ cy = true) then
    match nilA x, nilA y with
    | some true, some b => some b
    | some false, some true => some false
    | _, _ => none
  else none
def isBoolT (P : Program) (t : TypeId) : Bool :=
  match P.underlying t with
  | some .bool => true
  | _ => false
def binA (P : Program) (op : BinOp) (t : TypeId) (cx cy : Bool) (x y : Value) : Option Value :=
  match x, y with
  | .int k a, .int k' b =>
    match op with
    | .shl => shiftA .shl k a b
    | .shr => shiftA .shr k a b
    | _ => if k = k' then intBinA op k a b else none
  | .string a, .string b => strBinA op a b
  | .bool a, .bool b =>
    if isBoolT P t then match op with
      | .eql => some (.bool (a == b))
      | .neq => some (.bool (!(a == b)))
      | _ => none
    else none
  | .agg a, .agg b =>
    if plainV 4 (.agg a) && plainV 4 (.agg b) then
      match qrun P (do eqGuard op t (.tmp 0) (.tmp 0) (.agg a) (.agg b); binOp op t (.agg a) (.agg b)) with
      | some v => if plainV 1 v then some v else none
      | none => none
    else none
  | x, y =>
    match op with
    | .eql => (eqNilA P t cx cy x y).map fun b => .bool b
    | .neq => (eqNilA P t cx cy x y).map fun b => .bool (!b)
    | _ => none
def unA (op : UnOp) (x : Value) : Option Value :=
  match op, x with
  | .neg, .int k n => some (.int k (k.wrap (0 - n)))
  | .not, .bool b => some (.bool (!b))
  | .xor, .int k n => intBinA .xor k (if k.signed then -1 else k.max) n
  | _, _ => none
def bytesV (s : ByteArray) : List Value := s.data.toList.map fun b => .int .u8 b.toNat
/-- Cells that are bytes, as a string. -/
def strOf : List Value → Option (List UInt8)
  | [] => some []
  | .int .u8 n :: l => (strOf l).map fun r => UInt8.ofNat n.toNat :: r
  | _ :: _ => none
def isU8 (P : Program) (t : TypeId) : Bool :=
  match P.underlying t with
  | some (.int .u8) => true
  | _ => false
/-- A slice's block and cells: n elements of a size. -/
def sliceCells (h : AHeap) (size : Nat) : Value → Option (List Value)
  | .slice none 0 0 => some []
  | .slice (some ⟨b, o, none⟩) n _ => match blkA h b with
    | some k => takeA k.cells o (n * size)
    | none => none
  | _ => none
def convA (P : Program) (src dst : TypeId) (x : Value) (h : AHeap) : Option (Value × AHeap) :=
  match P.underlying src, P.underlying dst, x with
  | some _, some (.int k), .int _ n => some (.int k (k.wrap n), h)
  | some _, some .string, .int _ n => some (.string (Utf8.encode n), h)
  | some _, some .string, .string s => some (.string s, h)
  | some _, some (.slice e), .string s =>
    if isU8 P e = true ∧ sizeA P e = some 1 then
      let (b, h') := newA h (bytesV s) 1
      some (.slice (some ⟨b, 0, none⟩) s.size s.size, h')
    else none
  | some (.slice e), some .string, .slice a n m =>
    if isU8 P e = true then
      match (sliceCells h 1 (.slice a n m)).bind strOf with
      | some l => some (.string ⟨l.toArray⟩, h)
      | none => none
    else none
  | some (.slice _), some (.slice e), .slice (some ⟨b, o, none⟩) n m =>
    if src = dst ∧ isU8 P e = true then
      match blkA h b with
      | some k => if k.ro = false then some (.slice (some ⟨b, o, none⟩) n m, h) else none
      | none => none
    else none
  | _, _, _ => none
def buildA (P : Program) (t : TypeId) (parts : List (Nat × Value)) : Option Value :=
  match P.underlying t, zeroA P t with
  | some (.struct fs), some z =>
    match (fs.toList.mapM fun f => (sizeA P f.type).map fun n => (f.offset, n)) with
    | some places => (Instr.fill (places[·]?) z.toArray parts).map .agg
    | none => none
  | some (.array _ e), some z =>
    match sizeA P e with
    | some size => (Instr.fill (fun i => some (i * size, size)) z.toArray parts).map .agg
    | none => none
  | _, _ => none
def repCells (z : List Value) : Nat → List Value
  | 0 => []
  | n + 1 => z ++ repCells z n
def buildSliceA (P : Program) (t : TypeId) (len : Nat) (parts : List (Nat × Value)) (h : AHeap) : Option (Value × AHeap) :=
  match P.underlying t with
  | some (.slice e) =>
    match sizeA P e, zeroA P e with
    | some size, some z =>
      if len * size ≤ 16777216 ∧ z.length = size ∧ 0 < size then
        match Instr.fill (fun i => some (i * size, size)) (repCells z len).toArray parts with
        | some cells => if cells.toList.all oneCellA = true then
            let (b, h') := newA h cells.toList size
            some (.slice (some ⟨b, 0, none⟩) len len, h')
          else none
        | none => none
      else none
    | _, _ => none
  | _ => none
def makeSliceA (P : Program) (t : TypeId) (len cap : Value) (h : AHeap) : Option (Value × AHeap) :=
  match P.underlying t, len, cap with
  | some (.slice e), .int _ n, .int _ m =>
    match sizeA P e, zeroA P e, bytesA P e with
    | some size, some z, some by_ =>
      if 0 ≤ n ∧ n ≤ m ∧ m * by_ ≤ 281474976710656 ∧ m ≤ 9223372036854775807 ∧ z.length = size ∧ 0 < size then
        let (b, h') := newA h (repCells z n.toNat) size
        some (.slice (some ⟨b, 0, none⟩) n.toNat n.toNat, h')
      else none
    | _, _, _ => none
  | _, _, _ => none
def boundA (d : Nat) : Option Value → Option Nat
  | none => some d
  | some (.int _ i) => if 0 ≤ i then some i.toNat else none
  | _ => none
/-- low, high within n. -/
def boundsA (n : Nat) (lo hi : Option Value) : Option (Nat × Nat) :=
  match boundA 0 lo, boundA n hi with
  | some l, some r => if l ≤ r ∧ r ≤ n then some (l, r) else none
  | _, _ => none
def sliceA (P : Program) (t : TypeId) (x : Value) (lo hi : Option Value) (h : AHeap) : Option Value :=
  match P.underlying t, x with
  | some .string, .string s => (boundsA s.size lo hi).map fun (l, r) => .string (s.extract l r)
  | some (.slice e), .slice none 0 0 => match sizeA P e, boundsA 0 lo hi with
    | some _, some _ => some (.slice none 0 0)
    | _, _ => none
  | some (.slice e), .slice (some ⟨b, o, none⟩) n _ =>
    match boundsA n lo hi, sizeA P e, blkA h b with
    | some (l, r), some size, some k => if k.esz = size then some (.slice (some ⟨b, o + l * size, none⟩) (r - l) (r - l)) else none
    | _, _, _ => none
  | some (.array n e), .pointer (some ⟨b, o, none⟩) =>
    match boundsA n lo hi, sizeA P e, blkA h b with
    | some (l, r), some size, some k => if k.esz = size ∧ 0 < n * size ∧ o + n * size ≤ k.cells.length then some (.slice (some ⟨b, o + l * size, none⟩) (r - l) (r - l)) else none
    | _, _, _ => none
  | _, _ => none
def partA (P : Program) (t : TypeId) (cs : Array Value) (off : Nat) : Option Value :=
  match isAggA P t, sizeA P t with
  | some true, some n => some (.agg (cs.extract off (off + n)))
  | some false, some _ => cs[off]?
  | _, _ => none
def indexAddrA (P : Program) (t : TypeId) (x i : Value) : Option Value :=
  match P.underlying t, x, i with
  | some (.array n e), .pointer (some ⟨b, o, none⟩), .int _ k =>
    match sizeA P e with
    | some size => if 0 ≤ k ∧ k < n then some (.pointer (some ⟨b, o + k.toNat * size, none⟩)) else none
    | none => none
  | some (.slice e), .slice (some ⟨b, o, none⟩) n _, .int _ k =>
    match sizeA P e with
    | some size => if 0 ≤ k ∧ k < n then some (.pointer (some ⟨b, o + k.toNat * size, none⟩)) else none
    | none => none
  | _, _, _ => none
def indexA (P : Program) (t : TypeId) (x i : Value) : Option Value :=
  match P.underlying t, x, i with
  | some (.array n e), .agg cs, .int _ k =>
    match sizeA P e with
    | some size => if 0 ≤ k ∧ k < n then partA P e cs (k.toNat * size) else none
    | none => none
  | some .string, .string s, .int _ k => if 0 ≤ k then (s.data[k.toNat]?).map fun b => .int .u8 b.toNat else none
  | _, _, _ => none
/-- Operations that ask nothing of memory. -/
def pureOp : Op → Bool
  | .move _ | .assign _ | .pick .. | .nilCheck _ | .binOp .. | .unOp .. | .makeInterface .. | .makeFunc .. | .fieldAddr .. | .field .. | .indexAddr .. | .index .. | .extract .. | .build .. => true
  | .call { callee := .builtin .len, .. } | .call { callee := .builtin .min, .. } | .call { callee := .builtin .max, .. } => true
  | _ => false
def evParts (c : Ctx) (fr : AFrame) : List (Nat × Operand) → Option (List (Nat × Value))
  | [] => some []
  | (i, x) :: l => match evA c fr x, evParts c fr l with
    | some v, some vs => some ((i, v) :: vs)
    | _, _ => none
def lenA (P : Program) (t : TypeId) (x : Value) : Option Value :=
  match P.underlying t, x with
  | some .string, .string s => some (.int .i64 s.size)
  | some (.slice _), .slice _ n _ => some (.int .i64 n)
  | some (.array n _), _ => some (.int .i64 n)
  | _, _ => none
def min2A (x y : Value) : Option Value :=
  match x, y with
  | .int k a, .int _ b => some (.int k (if b < a then b else a))
  | _, _ => none
def max2A (x y : Value) : Option Value :=
  match x, y with
  | .int k a, .int _ b => some (.int k (if b > a then b else a))
  | _, _ => none
def foldA (f : Value → Value → Option Value) : Value → List Value → Option Value
  | x, [] => some x
  | x, y :: l => match f x y with
    | some z => foldA f z l
    | none => none
def purA (c : Ctx) (fr : AFrame) (op : Op) : Option Value :=
  match op with
  | .move x => evA c fr x
  | .assign x => evA c fr x
  | .pick x a b => match evA c fr x with
    | some (.bool true) => evA c fr a
    | some (.bool false) => evA c fr b
    | _ => none
  | .nilCheck x => match evA c fr x with
    | some (.pointer (some a)) => some (.pointer (some a))
    | _ => none
  | .binOp op t x y _ => match evA c fr x, evA c fr y with
    | some a, some b => binA c.P op t (isConstA x) (isConstA y) a b
    | _, _ => none
  | .unOp op _ x => match evA c fr x with
    | some a => unA op a
    | none => none
  | .makeInterface t x => match evA c fr x, c.P.underlying t with
    | some _, some (.interface _) => none
    | some a, some _ => some (.iface t a)
    | _, _ => none
  | .makeFunc fn first captured => match evL c fr first.toList, evL c fr captured.toList with
    | some xs, some cs => some (.func fn xs.toArray cs.toArray)
    | _, _ => none
  | .fieldAddr s x f => match evA c fr x, fieldA c.P s f with
    | some (.pointer (some ⟨b, o, none⟩)), some (off, t) => if (sizeA c.P t).getD 0 = 0 then none else some (.pointer (some ⟨b, o + off, none⟩))
    | _, _ => none
  | .field t x f => match evA c fr x, fieldA c.P t f with
    | some (.agg cs), some (off, u) => partA c.P u cs off
    | _, _ => none
  | .indexAddr t x i => match evA c fr x, evA c fr i with
    | some a, some b => indexAddrA c.P t a b
    | _, _ => none
  | .index t x i => match evA c fr x, evA c fr i with
    | some a, some b => indexA c.P t a b
    | _, _ => none
  | .extract x i => match evA c fr x with
    | some (.tuple vs) => vs[i]?
    | _ => none
  | .build t parts => match evParts c fr parts.toList with
    | some ps => buildA c.P t ps
    | none => none
  | .call { callee := .builtin .len, args, argTypes } => match evL c fr args.toList, argTypes[0]? with
    | some [x], some t => lenA c.P t x
    | _, _ => none
  | .call { callee := .builtin .min, args, .. } => match evL c fr args.toList with
    | some (x :: l) => foldA min2A x l
    | _ => none
  | .call { callee := .builtin .max, args, .. } => match evL c fr args.toList with
    | some (x :: l) => foldA max2A x l
    | _ => none
  | _ => none
/-- What is appended: cells, and how many elements. -/
def moreA (h : AHeap) (size : Nat) : Value → Option (List Value × Nat)
  | .string s => if size = 1 then some (bytesV s, s.size) else none
  | .slice a n m => (sliceCells h size (.slice a n m)).map fun l => (l, n)
  | _ => none
def appendA (P : Program) (t : TypeId) (s x : Value) (h : AHeap) : Option (Value × AHeap) :=
  match P.underlying t with
  | some (.slice e) =>
    match sizeA P e, zeroA P e, bytesA P e with
    | some size, some z, some by_ =>
      if z.length = size ∧ 0 < size then
        match moreA h size x with
        | some (new, m) =>
          if m = 0 then (match s with | .slice none 0 0 => some (s, h) | .slice (some ⟨_, _, none⟩) _ _ => some (s, h) | _ => none) else
          match s with
          | .slice none 0 0 =>
            if m * by_ ≤ 140737488355328 ∧ m ≤ 9223372036854775807 then
              let (b, h') := newA h new size
              some (.slice (some ⟨b, 0, none⟩) m m, h')
            else none
          | .slice (some ⟨b, o, none⟩) n _ =>
            match blkA h b with
            | some k =>
              if k.ro = false ∧ k.esz = size ∧ (n + m) * by_ ≤ 140737488355328 ∧ n + m ≤ 9223372036854775807 ∧ new.all oneCellA = true then
                match takeA k.cells o (n * size) with
                | some old => let (b', h') := newA (h.set b none) (old ++ new) size
                  some (.slice (some ⟨b', 0, none⟩) (n + m) (n + m), h')
                | none => none
              else none
            | none => none
          | _ => none
        | none => none
      else none
    | _, _, _ => none
  | _ => none
def copyA (P : Program) (t : TypeId) (d x : Value) (h : AHeap) : Option (Value × AHeap) :=
  match P.underlying t with
  | some (.slice e) =>
    match sizeA P e with
    | some size => if 0 < size then
      match moreA h size x, d with
      | some _, .slice none 0 0 => some (.int .i64 0, h)
      | some (new, m), .slice (some ⟨b, o, none⟩) n _ =>
        (writeA h b o (new.take (min m n * size))).map fun h' => (.int .i64 (min m n : Nat), h')
      | _, _ => none
      else none
    | none => none
  | _ => none
def evOp (c : Ctx) (call : CallF) (fr : AFrame) (op : Op) (h : AHeap) : Option (Value × AHeap) :=
  if pureOp op then (purA c fr op).map fun v => (v, h) else
  match op with
  | .alloc t => match zeroA c.P t, eszA c.P t with
    | some z, some n => let (b, h') := newA h z n; some (.pointer (some ⟨b, 0, none⟩), h')
    | _, _ => none
  | .box t x => match evA c fr x, eszA c.P t with
    | some v, some n => let (b, h') := newA h v.cells.toList n; some (.pointer (some ⟨b, 0, none⟩), h')
    | _, _ => none
  | .buildSlice t len parts => match evParts c fr parts.toList with
    | some ps => buildSliceA c.P t len ps h
    | none => none
  | .load t x => match evA c fr x with
    | some a => (loadA c.P h t a).map fun v => (v, h)
    | none => none
  | .store t x y => match evA c fr x, evA c fr y with
    | some a, some v => (storeA c.P h t a v).map fun h' => (undef, h')
    | _, _ => none
  | .convert s d x => match evA c fr x with
    | some a => convA c.P s d a h
    | none => none
  | .makeSlice t l m => match evA c fr l, evA c fr m with
    | some a, some b => makeSliceA c.P t a b h
    | _, _ => none
  | .slice t x lo hi none => match evA c fr x, evL c fr lo.toList, evL c fr hi.toList with
    | some a, some l, some r => (sliceA c.P t a l[0]? r[0]? h).map fun v => (v, h)
    | _, _, _ => none
  | .range t x => match evA c fr x, c.P.underlying t with
    | some (.string s), some .string => some (.pointer (some ⟨h.length, 0, none⟩), h ++ [some (.iter s 0)])
    | _, _ => none
  | .next x true => match evA c fr x with
    | some (.pointer (some ⟨r, 0, none⟩)) => match h[r]? with
      | some (some (.iter s pos)) =>
        if pos < s.size then
          some (.tuple #[.bool true, .int .i64 pos, .int .i32 (Utf8.decode s pos).1], h.set r (some (.iter s (pos + (Utf8.decode s pos).2))))
        else some (.tuple #[.bool false], h)
      | _ => none
    | _ => none
  | .call { callee := .builtin .append, args, argTypes } => match evL c fr args.toList, argTypes[0]?, argTypes[1]? with
    | some [s, x], some t, some u => match c.P.underlying u with
      | some (.int _) => none
      | some _ => appendA c.P t s x h
      | none => none
    | _, _, _ => none
  | .call { callee := .builtin .copy, args, argTypes } => match evL c fr args.toList, argTypes[0]? with
    | some [d, x], some t => copyA c.P t d x h
    | _, _ => none
  | .call { callee := .value f, args, .. } => match evA c fr f, evL c fr args.toList with
    | some (.func (.func g) first captured), some vs => call g (first.toList ++ vs ++ captured.toList) h
    | _, _ => none
  | _ => none
def wantA (ops : Array Oper) (fr : AFrame) (o : Oper) : Bool :=
  match o.guard with
  | none => true
  | some (j, want) => match (ops[j]?).bind (·.dst) with
    | some t => match fget fr t with
      | .bool b => b == want
      | _ => false
    | none => false
def putA (n : Nat) (fr : AFrame) (dst : Option Tmp) (v : Value) : Option AFrame :=
  match dst with
  | none => some fr
  | some d => if d < n then some (fset fr d v) else none
/-- The operations, in the text's order. -/
def evOps (c : Ctx) (call : CallF) (n : Nat) (ops : Array Oper) : List Oper → AFrame → AHeap → Option (AFrame × AHeap)
  | [], fr, h => some (fr, h)
  | o :: rest, fr, h =>
    if wantA ops fr o then
      match evOp c call fr o.op h with
      | some (v, h') => match putA n fr o.dst v with
        | some fr' => evOps c call n ops rest fr' h'
        | none => none
      | none => none
    else match putA n fr o.dst undef with
      | some fr' => evOps c call n ops rest fr' h
      | none => none
end Go.Abs
