/- PcapMerged, part 1 of 7: what the proof of the law rests on. Conditions: none. -/
import Derived.Orders
import Derived.Laws.Sem
import Derived.Below
import Derived.Laws.World
import Derived.Calls
import Derived.Laws.Strings
import Derived.Laws.Cells
import Derived.Laws.BytesString
import Derived.Laws.Append
set_option linter.unusedSimpArgs false
set_option linter.unusedVariables false
/- Abs1: the evaluator: the model's code over an abstract heap. Definitions only (and equality of values, decidable). Conditions: none. -/
namespace Go.Abs
mutual
def eqV : Value → Value → Bool
  | .bool a, .bool b => a == b
  | .int k n, .int k' n' => decide (k = k') && decide (n = n')
  | .float k n, .float k' n' => decide (k = k') && decide (n = n')
  | .complex k n m, .complex k' n' m' => decide (k = k') && decide (n = n') && decide (m = m')
  | .string s, .string t => decide (s = t)
  | .pointer a, .pointer b => decide (a = b)
  | .slice a n m, .slice b n' m' => decide (a = b) && decide (n = n') && decide (m = m')
  | .map a, .map b => decide (a = b)
  | .chan a, .chan b => decide (a = b)
  | .func f ⟨x⟩ ⟨c⟩, .func g ⟨y⟩ ⟨d⟩ => decide (f = g) && eqL x y && eqL c d
  | .nilFunc, .nilFunc => true
  | .iface t v, .iface u w => decide (t = u) && eqV v w
  | .nilIface, .nilIface => true
  | .agg ⟨x⟩, .agg ⟨y⟩ => eqL x y
  | .tuple ⟨x⟩, .tuple ⟨y⟩ => eqL x y
  | _, _ => false
def eqL : List Value → List Value → Bool
  | [], [] => true
  | a :: x, b :: y => eqV a b && eqL x y
  | _, _ => false
end
mutual
theorem eqV_refl : ∀ a, eqV a a = true
  | .bool a => by simp [eqV]
  | .int k n => by simp [eqV]
  | .float k n => by simp [eqV]
  | .complex k n m => by simp [eqV]
  | .string s => by simp [eqV]
  | .pointer a => by simp [eqV]
  | .slice a n m => by simp [eqV]
  | .map a => by simp [eqV]
  | .chan a => by simp [eqV]
  | .func f ⟨x⟩ ⟨c⟩ => by simp [eqV, eqL_refl x, eqL_refl c]
  | .nilFunc => by simp [eqV]
  | .iface t v => by simp [eqV, eqV_refl v]
  | .nilIface => by simp [eqV]
  | .agg ⟨x⟩ => by simp [eqV, eqL_refl x]
  | .tuple ⟨x⟩ => by simp [eqV, eqL_refl x]
theorem eqL_refl : ∀ a, eqL a a = true
  | [] => by simp [eqL]
  | a :: x => by simp [eqL, eqV_refl a, eqL_refl x]
end
mutual
theorem eqV_eq : ∀ a b, eqV a b = true → a = b
  | .bool a, b, h => by cases b <;> simp_all [eqV]
  | .int k n, b, h => by cases b <;> simp_all [eqV]
  | .float k n, b, h => by cases b <;> simp_all [eqV]
  | .complex k n m, b, h => by cases b <;> simp_all [eqV]
  | .string s, b, h => by cases b <;> simp_all [eqV]
  | .pointer a, b, h => by cases b <;> simp_all [eqV]
  | .slice a n m, b, h => by cases b <;> simp_all [eqV]
  | .map a, b, h => by cases b <;> simp_all [eqV]
  | .chan a, b, h => by cases b <;> simp_all [eqV]
  | .func f ⟨x⟩ ⟨c⟩, b, h => by
    cases b with
    | func g y d => obtain ⟨y⟩ := y; obtain ⟨d⟩ := d; simp only [eqV, Bool.and_eq_true, decide_eq_true_eq] at h; rw [h.1.1, eqL_eq x y h.1.2, eqL_eq c d h.2]
    | _ => simp [eqV] at h
  | .nilFunc, b, h => by cases b <;> simp_all [eqV]
  | .iface t v, b, h => by
    cases b with
    | iface u w => simp only [eqV, Bool.and_eq_true, decide_eq_true_eq] at h; rw [h.1, eqV_eq v w h.2]
    | _ => simp [eqV] at h
  | .nilIface, b, h => by cases b <;> simp_all [eqV]
  | .agg ⟨x⟩, b, h => by
    cases b with
    | agg y => obtain ⟨y⟩ := y; simp only [eqV] at h; rw [eqL_eq x y h]
    | _ => simp [eqV] at h
  | .tuple ⟨x⟩, b, h => by
    cases b with
    | tuple y => obtain ⟨y⟩ := y; simp only [eqV] at h; rw [eqL_eq x y h]
    | _ => simp [eqV] at h
theorem eqL_eq : ∀ a b, eqL a b = true → a = b
  | [], b, h => by cases b <;> simp_all [eqL]
  | a :: x, b, h => by
    cases b with
    | nil => simp [eqL] at h
    | cons b y => simp only [eqL, Bool.and_eq_true] at h; rw [eqV_eq a b h.1, eqL_eq x y h.2]
end
instance : DecidableEq Value := fun a b => decidable_of_iff (eqV a b = true) ⟨eqV_eq a b, fun h => h ▸ eqV_refl a⟩

/-- A block of the abstract heap: its cells; how many cells an element takes; may it not be written. -/
structure Blk where
  cells : List Value
  esz : Nat
  ro : Bool
  deriving DecidableEq
inductive AObj where
  | cells (b : Blk)
  | iter (s : ByteArray) (pos : Nat)
  deriving DecidableEq
/-- The abstract heap; 'none': a block that was appended to and is gone. -/
abbrev AHeap := List (Option AObj)
abbrev AFrame := List Value
def fget : AFrame → Nat → Value
  | [], _ => undef
  | v :: _, 0 => v
  | _ :: l, n + 1 => fget l n
def fset : AFrame → Nat → Value → AFrame
  | [], 0, v => [v]
  | [], n + 1, v => undef :: fset [] n v
  | _ :: l, 0, v => v :: l
  | x :: l, n + 1, v => x :: fset l n v
/-- What the evaluator is told of a program beside its text: where its variables lie in the abstract heap; functions with contracts of their own. -/
structure Ctx where
  P : Program
  G : Nat → Option Nat
  prim : FuncId → Option (List Value → AHeap → Option (Value × AHeap))
abbrev CallF := FuncId → List Value → AHeap → Option (Value × AHeap)
def plainV : Nat → Value → Bool
  | 0, _ => false
  | _ + 1, .bool _ => true
  | _ + 1, .int _ _ => true
  | _ + 1, .float _ _ => true
  | _ + 1, .complex _ _ _ => true
  | _ + 1, .string _ => true
  | _ + 1, .pointer none => true
  | _ + 1, .slice none 0 0 => true
  | _ + 1, .nilFunc => true
  | _ + 1, .nilIface => true
  | k + 1, .iface _ v => plainV k v
  | k + 1, .agg cs => cs.toList.all (plainV k)
  | k + 1, .tuple cs => cs.toList.all (plainV k)
  | k + 1, .func _ xs cs => xs.toList.all (plainV k) && cs.toList.all (plainV k)
  | _ + 1, _ => false
def isAggA (P : Program) (t : TypeId) : Option Bool :=
  match P.underlying t with
  | some (.struct _) => some true
  | some (.array _ _) => some true
  | some _ => some false
  | none => none
def sizeA (P : Program) (t : TypeId) : Option Nat := (P.info? t).map (·.size)
def bytesA (P : Program) (t : TypeId) : Option Nat := (P.info? t).map (·.bytes)
/-- The zero value's cells. -/
def zeroA (P : Program) (t : TypeId) : Option (List Value) :=
  match P.info? t with
  | some i => match i.zero with
    | some v => if v.cells.toList.all (plainV 3) then some v.cells.toList else none
    | none => none
  | none => none
def fieldA (P : Program) (s : TypeId) (i : Nat) : Option (Nat × TypeId) :=
  match P.underlying s with
  | some (.struct fs) => match fs[i]? with
    | some f => some (f.offset, f.type)
    | none => none
  | _ => none
def eszA (P : Program) (t : TypeId) : Option Nat :=
  match P.underlying t with
  | some (.array _ e) => sizeA P e
  | _ => sizeA P t
def evA (c : Ctx) (fr : AFrame) : Operand → Option Value
  | .tmp t => some (fget fr t)
  | .const v => if plainV 4 v then some v else none
  | .global g => (c.G g).map fun id => .pointer (some ⟨id, 0, none⟩)
  | .func f => some (.func (.func f) #[] #[])
def evL (c : Ctx) (fr : AFrame) : List Operand → Option (List Value)
  | [] => some []
  | x :: l => match evA c fr x, evL c fr l with
    | some v, some vs => some (v :: vs)
    | _, _ => none
def blkA (h : AHeap) (b : Nat) : Option Blk :=
  match h[b]? with
  | some (some (.cells k)) => some k
  | _ => none
/-- n cells from o on. -/
def takeA (l : List Value) (o n : Nat) : Option (List Value) := if o + n ≤ l.length then some ((l.drop o).take n) else none
def loadA (P : Program) (h : AHeap) (t : TypeId) (v : Value) : Option Value :=
  match v with
  | .pointer (some ⟨b, o, none⟩) =>
    match blkA h b, isAggA P t, sizeA P t with
    | some k, some true, some n => (takeA k.cells o n).map fun l => .agg l.toArray
    | some k, some false, some _ => k.cells[o]?
    | _, _, _ => none
  | _ => none
def putCells (l : List Value) (o : Nat) : List Value → List Value
  | [] => l
  | v :: vs => putCells (l.set o v) (o + 1) vs
def oneCellA : Value → Bool
  | .agg _ => false
  | .tuple _ => false
  | _ => true
/-- Store cells into a block. -/
def writeA (h : AHeap) (b o : Nat) (vs : List Value) : Option AHeap :=
  match blkA h b with
  | some k => if k.ro = false ∧ o + vs.length ≤ k.cells.length ∧ vs.all oneCellA = true then some (h.set b (some (.cells { k with cells := putCells k.cells o vs }))) else none
  | none => none
def storeA (P : Program) (h : AHeap) (t : TypeId) (a v : Value) : Option AHeap :=
  match a with
  | .pointer (some ⟨b, o, none⟩) => if sizeA P t = some v.cells.size then writeA h b o v.cells.toList else none
  | _ => none
def newA (h : AHeap) (cells : List Value) (esz : Nat) : Nat × AHeap := (h.length, h ++ [some (.cells ⟨cells, esz, false⟩)])
/-- A run that asks nothing of memory and of the tape: its value. -/
def qrun {α : Type} (P : Program) : Sem α → Option α
  | .pure a => some a
  | .program k => qrun P (k P)
  | .mark _ k => qrun P k
  | _ => none
def intBinA (op : BinOp) (k : IntKind) (a b : Int) : Option Value :=
  match op with
  | .add => some (.int k (k.wrap (a + b)))
  | .sub => some (.int k (k.wrap (a - b)))
  | .mul => some (.int k (k.wrap (a * b)))
  | .quo => if b = 0 then none else some (.int k (k.wrap (a.tdiv b)))
  | .rem => if b = 0 then none else some (.int k (a.tmod b))
  | .and => some (.int k (k.wrap (BitVec.ofInt k.bits a &&& BitVec.ofInt k.bits b).toNat))
  | .or => some (.int k (k.wrap (BitVec.ofInt k.bits a ||| BitVec.ofInt k.bits b).toNat))
  | .xor => some (.int k (k.wrap (BitVec.ofInt k.bits a ^^^ BitVec.ofInt k.bits b).toNat))
  | .andNot => some (.int k (k.wrap (BitVec.ofInt k.bits a &&& ~~~(BitVec.ofInt k.bits b)).toNat))
  | .eql => some (.bool (decide (a = b)))
  | .neq => some (.bool (!decide (a = b)))
  | .lss => some (.bool (decide (a < b)))
  | .leq => some (.bool (decide (a ≤ b)))
  | .gtr => some (.bool (decide (a > b)))
  | .geq => some (.bool (decide (a ≥ b)))
  | _ => none
def shiftA (op : BinOp) (k : IntKind) (a b : Int) : Option Value :=
  if b < 0 then none else
  match op with
  | .shl => some (.int k (k.wrap (a * 2 ^ (min b.toNat k.bits))))
  | .shr => some (.int k (a.fdiv (2 ^ (min b.toNat k.bits))))
  | _ => none
def lessA (a b : ByteArray) : Bool := Op.bytesLess a.data.toList b.data.toList
def strBinA (op : BinOp) (a b : ByteArray) : Option Value :=
  match op with
  | .add => if a.size + b.size ≤ 9223372036854775807 then some (.string (a ++ b)) else none
  | .eql => some (.bool (decide (a = b)))
  | .neq => some (.bool (!decide (a = b)))
  | .lss => some (.bool (lessA a b))
  | .leq => some (.bool (lessA a b || decide (a = b)))
  | .gtr => some (.bool (!(lessA a b || decide (a = b))))
  | .geq => some (.bool (!lessA a b))
  | _ => none
def isConstA : Operand → Bool
  | .const _ => true
  | _ => false
/-- Is it nil, is it not: of what can be asked against nil. -/
def nilA : Value → Option Bool
  | .pointer a => some a.isNone
  | .slice a _ _ => some a.isNone
  | .nilFunc => some true
  | .func _ _ _ => some false
  | .nilIface => some true
  | .iface _ _ => some false
  | _ => none
/-- May this type's values be asked against nil, as these values are. -/
def nilType (P : Program) (t : TypeId) (v : Value) : Bool :=
  match P.underlying t, v with
  | some (.pointer _), .pointer _ => true
  | some (.slice _), .slice _ _ _ => true
  | some (.func _ _ _), .nilFunc => true
  | some (.func _ _ _), .func _ _ _ => true
  | some (.interface _), .nilIface => true
  | some (.interface _), .iface _ _ => true
  | _, _ => false
def eqNilA (P : Program) (t : TypeId) (cx cy : Bool) (x y : Value) : Option Bool :=
  if nilType P t x = true ∧ nilType P t y = true ∧ (cx = true ∨ cy = true) then
    match nilA x, nilA y with
    | some true, some b => some b
    | some false, some true => some false
    | _, _ => none
  else none
def isBoolT (P : Program) (t : TypeId) : Bool :=
  match P.underlying t with
  | some .bool => true
  | _ => false
def binA (P : Program) (op : BinOp) (t : TypeId) (cx cy : Bool) (x y : Value) : Option Value :=
  match x, y with
  | .int k a, .int k' b =>
    match op with
    | .shl => shiftA .shl k a b
    | .shr => shiftA .shr k a b
    | _ => if k = k' then intBinA op k a b else none
  | .string a, .string b => strBinA op a b
  | .bool a, .bool b =>
    if isBoolT P t then match op with
      | .eql => some (.bool (a == b))
      | .neq => some (.bool (!(a == b)))
      | _ => none
    else none
  | .agg a, .agg b =>
    if plainV 4 (.agg a) && plainV 4 (.agg b) then
      match qrun P (do eqGuard op t (.tmp 0) (.tmp 0) (.agg a) (.agg b); binOp op t (.agg a) (.agg b)) with
      | some v => if plainV 1 v then some v else none
      | none => none
    else none
  | x, y =>
    match op with
    | .eql => (eqNilA P t cx cy x y).map fun b => .bool b
    | .neq => (eqNilA P t cx cy x y).map fun b => .bool (!b)
    | _ => none
def unA (op : UnOp) (x : Value) : Option Value :=
  match op, x with
  | .neg, .int k n => some (.int k (k.wrap (0 - n)))
  | .not, .bool b => some (.bool (!b))
  | .xor, .int k n => intBinA .xor k (if k.signed then -1 else k.max) n
  | _, _ => none
def bytesV (s : ByteArray) : List Value := s.data.toList.map fun b => .int .u8 b.toNat
/-- Cells that are bytes, as a string. -/
def strOf : List Value → Option (List UInt8)
  | [] => some []
  | .int .u8 n :: l => (strOf l).map fun r => UInt8.ofNat n.toNat :: r
  | _ :: _ => none
def isU8 (P : Program) (t : TypeId) : Bool :=
  match P.underlying t with
  | some (.int .u8) => true
  | _ => false
/-- A slice's block and cells: n elements of a size. -/
def sliceCells (h : AHeap) (size : Nat) : Value → Option (List Value)
  | .slice none 0 0 => some []
  | .slice (some ⟨b, o, none⟩) n _ => match blkA h b with
    | some k => takeA k.cells o (n * size)
    | none => none
  | _ => none
def convA (P : Program) (src dst : TypeId) (x : Value) (h : AHeap) : Option (Value × AHeap) :=
  match P.underlying src, P.underlying dst, x with
  | some _, some (.int k), .int _ n => some (.int k (k.wrap n), h)
  | some _, some .string, .int _ n => some (.string (Utf8.encode n), h)
  | some _, some .string, .string s => some (.string s, h)
  | some _, some (.slice e), .string s =>
    if isU8 P e = true ∧ sizeA P e = some 1 then
      let (b, h') := newA h (bytesV s) 1
      some (.slice (some ⟨b, 0, none⟩) s.size s.size, h')
    else none
  | some (.slice e), some .string, .slice a n m =>
    if isU8 P e = true then
      match (sliceCells h 1 (.slice a n m)).bind strOf with
      | some l => some (.string ⟨l.toArray⟩, h)
      | none => none
    else none
  | some (.slice _), some (.slice e), .slice (some ⟨b, o, none⟩) n m =>
    if src = dst ∧ isU8 P e = true then
      match blkA h b with
      | some k => if k.ro = false then some (.slice (some ⟨b, o, none⟩) n m, h) else none
      | none => none
    else none
  | _, _, _ => none
def buildA (P : Program) (t : TypeId) (parts : List (Nat × Value)) : Option Value :=
  match P.underlying t, zeroA P t with
  | some (.struct fs), some z =>
    match (fs.toList.mapM fun f => (sizeA P f.type).map fun n => (f.offset, n)) with
    | some places => (Instr.fill (places[·]?) z.toArray parts).map .agg
    | none => none
  | some (.array _ e), some z =>
    match sizeA P e with
    | some size => (Instr.fill (fun i => some (i * size, size)) z.toArray parts).map .agg
    | none => none
  | _, _ => none
def repCells (z : List Value) : Nat → List Value
  | 0 => []
  | n + 1 => z ++ repCells z n
def buildSliceA (P : Program) (t : TypeId) (len : Nat) (parts : List (Nat × Value)) (h : AHeap) : Option (Value × AHeap) :=
  match P.underlying t with
  | some (.slice e) =>
    match sizeA P e, zeroA P e with
    | some size, some z =>
      if len * size ≤ 16777216 ∧ z.length = size ∧ 0 < size then
        match Instr.fill (fun i => some (i * size, size)) (repCells z len).toArray parts with
        | some cells => if cells.toList.all oneCellA = true then
            let (b, h') := newA h cells.toList size
            some (.slice (some ⟨b, 0, none⟩) len len, h')
          else none
        | none => none
      else none
    | _, _ => none
  | _ => none
def makeSliceA (P : Program) (t : TypeId) (len cap : Value) (h : AHeap) : Option (Value × AHeap) :=
  match P.underlying t, len, cap with
  | some (.slice e), .int _ n, .int _ m =>
    match sizeA P e, zeroA P e, bytesA P e with
    | some size, some z, some by_ =>
      if 0 ≤ n ∧ n ≤ m ∧ m * by_ ≤ 281474976710656 ∧ m ≤ 9223372036854775807 ∧ z.length = size ∧ 0 < size then
        let (b, h') := newA h (repCells z n.toNat) size
        some (.slice (some ⟨b, 0, none⟩) n.toNat n.toNat, h')
      else none
    | _, _, _ => none
  | _, _, _ => none
def boundA (d : Nat) : Option Value → Option Nat
  | none => some d
  | some (.int _ i) => if 0 ≤ i then some i.toNat else none
  | _ => none
/-- low, high within n. -/
def boundsA (n : Nat) (lo hi : Option Value) : Option (Nat × Nat) :=
  match boundA 0 lo, boundA n hi with
  | some l, some r => if l ≤ r ∧ r ≤ n then some (l, r) else none
  | _, _ => none
def sliceA (P : Program) (t : TypeId) (x : Value) (lo hi : Option Value) (h : AHeap) : Option Value :=
  match P.underlying t, x with
  | some .string, .string s => (boundsA s.size lo hi).map fun (l, r) => .string (s.extract l r)
  | some (.slice e), .slice none 0 0 => match sizeA P e, boundsA 0 lo hi with
    | some _, some _ => some (.slice none 0 0)
    | _, _ => none
  | some (.slice e), .slice (some ⟨b, o, none⟩) n _ =>
    match boundsA n lo hi, sizeA P e, blkA h b with
    | some (l, r), some size, some k => if k.esz = size then some (.slice (some ⟨b, o + l * size, none⟩) (r - l) (r - l)) else none
    | _, _, _ => none
  | some (.array n e), .pointer (some ⟨b, o, none⟩) =>
    match boundsA n lo hi, sizeA P e, blkA h b with
    | some (l, r), some size, some k => if k.esz = size ∧ 0 < n * size ∧ o + n * size ≤ k.cells.length then some (.slice (some ⟨b, o + l * size, none⟩) (r - l) (r - l)) else none
    | _, _, _ => none
  | _, _ => none
def partA (P : Program) (t : TypeId) (cs : Array Value) (off : Nat) : Option Value :=
  match isAggA P t, sizeA P t with
  | some true, some n => some (.agg (cs.extract off (off + n)))
  | some false, some _ => cs[off]?
  | _, _ => none
def indexAddrA (P : Program) (t : TypeId) (x i : Value) : Option Value :=
  match P.underlying t, x, i with
  | some (.array n e), .pointer (some ⟨b, o, none⟩), .int _ k =>
    match sizeA P e with
    | some size => if 0 ≤ k ∧ k < n then some (.pointer (some ⟨b, o + k.toNat * size, none⟩)) else none
    | none => none
  | some (.slice e), .slice (some ⟨b, o, none⟩) n _, .int _ k =>
    match sizeA P e with
    | some size => if 0 ≤ k ∧ k < n then some (.pointer (some ⟨b, o + k.toNat * size, none⟩)) else none
    | none => none
  | _, _, _ => none
def indexA (P : Program) (t : TypeId) (x i : Value) : Option Value :=
  match P.underlying t, x, i with
  | some (.array n e), .agg cs, .int _ k =>
    match sizeA P e with
    | some size => if 0 ≤ k ∧ k < n then partA P e cs (k.toNat * size) else none
    | none => none
  | some .string, .string s, .int _ k => if 0 ≤ k then (s.data[k.toNat]?).map fun b => .int .u8 b.toNat else none
  | _, _, _ => none
/-- Operations that ask nothing of memory. -/
def pureOp : Op → Bool
  | .move _ | .assign _ | .pick .. | .nilCheck _ | .binOp .. | .unOp .. | .makeInterface .. | .makeFunc .. | .fieldAddr .. | .field .. | .indexAddr .. | .index .. | .extract .. | .build .. => true
  | .call { callee := .builtin .len, .. } | .call { callee := .builtin .min, .. } | .call { callee := .builtin .max, .. } => true
  | _ => false
def evParts (c : Ctx) (fr : AFrame) : List (Nat × Operand) → Option (List (Nat × Value))
  | [] => some []
  | (i, x) :: l => match evA c fr x, evParts c fr l with
    | some v, some vs => some ((i, v) :: vs)
    | _, _ => none
def lenA (P : Program) (t : TypeId) (x : Value) : Option Value :=
  match P.underlying t, x with
  | some .string, .string s => some (.int .i64 s.size)
  | some (.slice _), .slice _ n _ => some (.int .i64 n)
  | some (.array n _), _ => some (.int .i64 n)
  | _, _ => none
def min2A (x y : Value) : Option Value :=
  match x, y with
  | .int k a, .int _ b => some (.int k (if b < a then b else a))
  | _, _ => none
def max2A (x y : Value) : Option Value :=
  match x, y with
  | .int k a, .int _ b => some (.int k (if b > a then b else a))
  | _, _ => none
def foldA (f : Value → Value → Option Value) : Value → List Value → Option Value
  | x, [] => some x
  | x, y :: l => match f x y with
    | some z => foldA f z l
    | none => none
def purA (c : Ctx) (fr : AFrame) (op : Op) : Option Value :=
  match op with
  | .move x => evA c fr x
  | .assign x => evA c fr x
  | .pick x a b => match evA c fr x with
    | some (.bool true) => evA c fr a
    | some (.bool false) => evA c fr b
    | _ => none
  | .nilCheck x => match evA c fr x with
    | some (.pointer (some a)) => some (.pointer (some a))
    | _ => none
  | .binOp op t x y _ => match evA c fr x, evA c fr y with
    | some a, some b => binA c.P op t (isConstA x) (isConstA y) a b
    | _, _ => none
  | .unOp op _ x => match evA c fr x with
    | some a => unA op a
    | none => none
  | .makeInterface t x => match evA c fr x, c.P.underlying t with
    | some _, some (.interface _) => none
    | some a, some _ => some (.iface t a)
    | _, _ => none
  | .makeFunc fn first captured => match evL c fr first.toList, evL c fr captured.toList with
    | some xs, some cs => some (.func fn xs.toArray cs.toArray)
    | _, _ => none
  | .fieldAddr s x f => match evA c fr x, fieldA c.P s f with
    | some (.pointer (some ⟨b, o, none⟩)), some (off, t) => if (sizeA c.P t).getD 0 = 0 then none else some (.pointer (some ⟨b, o + off, none⟩))
    | _, _ => none
  | .field t x f => match evA c fr x, fieldA c.P t f with
    | some (.agg cs), some (off, u) => partA c.P u cs off
    | _, _ => none
  | .indexAddr t x i => match evA c fr x, evA c fr i with
    | some a, some b => indexAddrA c.P t a b
    | _, _ => none
  | .index t x i => match evA c fr x, evA c fr i with
    | some a, some b => indexA c.P t a b
    | _, _ => none
  | .extract x i => match evA c fr x with
    | some (.tuple vs) => vs[i]?
    | _ => none
  | .build t parts => match evParts c fr parts.toList with
    | some ps => buildA c.P t ps
    | none => none
  | .call { callee := .builtin .len, args, argTypes } => match evL c fr args.toList, argTypes[0]? with
    | some [x], some t => lenA c.P t x
    | _, _ => none
  | .call { callee := .builtin .min, args, .. } => match evL c fr args.toList with
    | some (x :: l) => foldA min2A x l
    | _ => none
  | .call { callee := .builtin .max, args, .. } => match evL c fr args.toList with
    | some (x :: l) => foldA max2A x l
    | _ => none
  | _ => none
/-- What is appended: cells, and how many elements. -/
def moreA (h : AHeap) (size : Nat) : Value → Option (List Value × Nat)
  | .string s => if size = 1 then some (bytesV s, s.size) else none
  | .slice a n m => (sliceCells h size (.slice a n m)).map fun l => (l, n)
  | _ => none
def appendA (P : Program) (t : TypeId) (s x : Value) (h : AHeap) : Option (Value × AHeap) :=
  match P.underlying t with
  | some (.slice e) =>
    match sizeA P e, zeroA P e, bytesA P e with
    | some size, some z, some by_ =>
      if z.length = size ∧ 0 < size then
        match moreA h size x with
        | some (new, m) =>
          if m = 0 then (match s with | .slice none 0 0 => some (s, h) | .slice (some ⟨_, _, none⟩) _ _ => some (s, h) | _ => none) else
          match s with
          | .slice none 0 0 =>
            if m * by_ ≤ 140737488355328 ∧ m ≤ 9223372036854775807 then
              let (b, h') := newA h new size
              some (.slice (some ⟨b, 0, none⟩) m m, h')
            else none
          | .slice (some ⟨b, o, none⟩) n _ =>
            match blkA h b with
            | some k =>
              if k.ro = false ∧ k.esz = size ∧ (n + m) * by_ ≤ 140737488355328 ∧ n + m ≤ 9223372036854775807 ∧ new.all oneCellA = true then
                match takeA k.cells o (n * size) with
                | some old => let (b', h') := newA (h.set b none) (old ++ new) size
                  some (.slice (some ⟨b', 0, none⟩) (n + m) (n + m), h')
                | none => none
              else none
            | none => none
          | _ => none
        | none => none
      else none
    | _, _, _ => none
  | _ => none
def copyA (P : Program) (t : TypeId) (d x : Value) (h : AHeap) : Option (Value × AHeap) :=
  match P.underlying t with
  | some (.slice e) =>
    match sizeA P e with
    | some size => if 0 < size then
      match moreA h size x, d with
      | some _, .slice none 0 0 => some (.int .i64 0, h)
      | some (new, m), .slice (some ⟨b, o, none⟩) n _ =>
        (writeA h b o (new.take (min m n * size))).map fun h' => (.int .i64 (min m n : Nat), h')
      | _, _ => none
      else none
    | none => none
  | _ => none
def evOp (c : Ctx) (call : CallF) (fr : AFrame) (op : Op) (h : AHeap) : Option (Value × AHeap) :=
  if pureOp op then (purA c fr op).map fun v => (v, h) else
  match op with
  | .alloc t => match zeroA c.P t, eszA c.P t with
    | some z, some n => let (b, h') := newA h z n; some (.pointer (some ⟨b, 0, none⟩), h')
    | _, _ => none
  | .box t x => match evA c fr x, eszA c.P t with
    | some v, some n => let (b, h') := newA h v.cells.toList n; some (.pointer (some ⟨b, 0, none⟩), h')
    | _, _ => none
  | .buildSlice t len parts => match evParts c fr parts.toList with
    | some ps => buildSliceA c.P t len ps h
    | none => none
  | .load t x => match evA c fr x with
    | some a => (loadA c.P h t a).map fun v => (v, h)
    | none => none
  | .store t x y => match evA c fr x, evA c fr y with
    | some a, some v => (storeA c.P h t a v).map fun h' => (undef, h')
    | _, _ => none
  | .convert s d x => match evA c fr x with
    | some a => convA c.P s d a h
    | none => none
  | .makeSlice t l m => match evA c fr l, evA c fr m with
    | some a, some b => makeSliceA c.P t a b h
    | _, _ => none
  | .slice t x lo hi none => match evA c fr x, evL c fr lo.toList, evL c fr hi.toList with
    | some a, some l, some r => (sliceA c.P t a l[0]? r[0]? h).map fun v => (v, h)
    | _, _, _ => none
  | .range t x => match evA c fr x, c.P.underlying t with
    | some (.string s), some .string => some (.pointer (some ⟨h.length, 0, none⟩), h ++ [some (.iter s 0)])
    | _, _ => none
  | .next x true => match evA c fr x with
    | some (.pointer (some ⟨r, 0, none⟩)) => match h[r]? with
      | some (some (.iter s pos)) =>
        if pos < s.size then
          some (.tuple #[.bool true, .int .i64 pos, .int .i32 (Utf8.decode s pos).1], h.set r (some (.iter s (pos + (Utf8.decode s pos).2))))
        else some (.tuple #[.bool false], h)
      | _ => none
    | _ => none
  | .call { callee := .builtin .append, args, argTypes } => match evL c fr args.toList, argTypes[0]?, argTypes[1]? with
    | some [s, x], some t, some u => match c.P.underlying u with
      | some (.int _) => none
      | some _ => appendA c.P t s x h
      | none => none
    | _, _, _ => none
  | .call { callee := .builtin .copy, args, argTypes } => match evL c fr args.toList, argTypes[0]? with
    | some [d, x], some t => copyA c.P t d x h
    | _, _ => none
  | .call { callee := .value f, args, .. } => match evA c fr f, evL c fr args.toList with
    | some (.func (.func g) first captured), some vs => call g (first.toList ++ vs ++ captured.toList) h
    | _, _ => none
  | _ => none
def wantA (ops : Array Oper) (fr : AFrame) (o : Oper) : Bool :=
  match o.guard with
  | none => true
  | some (j, want) => match (ops[j]?).bind (·.dst) with
    | some t => match fget fr t with
      | .bool b => b == want
      | _ => false
    | none => false
def putA (n : Nat) (fr : AFrame) (dst : Option Tmp) (v : Value) : Option AFrame :=
  match dst with
  | none => some fr
  | some d => if d < n then some (fset fr d v) else none
/-- The operations, in the text's order. -/
def evOps (c : Ctx) (call : CallF) (n : Nat) (ops : Array Oper) : List Oper → AFrame → AHeap → Option (AFrame × AHeap)
  | [], fr, h => some (fr, h)
  | o :: rest, fr, h =>
    if wantA ops fr o then
      match evOp c call fr o.op h with
      | some (v, h') => match putA n fr o.dst v with
        | some fr' => evOps c call n ops rest fr' h'
        | none => none
      | none => none
    else match putA n fr o.dst undef with
      | some fr' => evOps c call n ops rest fr' h
      | none => none
end Go.Abs
/- Abs2: the evaluator, on: regions whose order is drawn, code, functions. Definitions only. Conditions: none. -/
namespace Go.Abs
/-- Of each operation those that surely come ahead of it, whatever order is drawn. -/
def ancA : List Oper → List (List Nat) → List (List Nat)
  | [], acc => acc
  | o :: l, acc => ancA l (acc ++ [(o.after.toList.filter (Region.binds .any)).flatMap fun e => e.on :: acc.getD e.on []])
/-- Operations that leave the blocks that there were as they were. -/
def extOp : Op → Bool
  | .load .. | .convert .. | .slice .. | .alloc .. | .box .. | .buildSlice .. | .makeSlice .. | .range .. => true
  | _ => false
def callOp : Op → Bool
  | .call { callee := .value _, .. } => true
  | .store .. => true
  | _ => false
def pureAt (ops : Array Oper) (i : Nat) : Bool :=
  match ops[i]? with
  | some o => pureOp o.op
  | none => true
/-- Is i ordered against each operation that is not pure. -/
def mutA (ops : Array Oper) (anc : List (List Nat)) (i : Nat) : Bool :=
  (List.range ops.size).all fun j => j == i || pureAt ops j || (if j < i then (anc.getD i []).contains j else (anc.getD j []).contains i)
def chkOne (ops : Array Oper) (anc : List (List Nat)) (i : Nat) : Bool :=
  match ops[i]? with
  | none => true
  | some o =>
    (pureOp o.op || extOp o.op || callOp o.op || mutA ops anc i) &&
    (match o.op with | .select .. => false | _ => true) &&
    (o.after.all fun e => !Region.binds .any e || decide (e.on < i)) &&
    (List.range i).all fun j => match ops[j]? with
      | some p => p.apart ops o || (anc.getD i []).contains j
      | none => true
def chkA (ops : Array Oper) : Bool := (List.range ops.size).all (chkOne ops (ancA ops.toList []))
/-- No operation from j on, up to k, writes what j looks at. -/
def looksFree (ops : Array Oper) (j k : Nat) : Bool :=
  (List.range k).all fun p => decide (p < j) || match ops[p]?, ops[j]? with
    | some q, some o => match q.dst with
      | some t => !(o.looksAt ops).contains t
      | none => true
    | _, _ => true
/-- A step that is not ordered against some loads that stand ahead of it in the text: what these read is the same behind it. -/
def flexA (c : Ctx) (ops : Array Oper) (anc : List (List Nat)) (k : Nat) (fr : AFrame) (h h' : AHeap) : Bool :=
  (List.range ops.size).all fun j => j == k || pureAt ops j || (if j < k then (anc.getD k []).contains j else (anc.getD j []).contains k) ||
    (decide (j < k) && looksFree ops j k && match ops[j]? with
      | some o => match o.op with
        | .load t x => (!wantA ops fr o) || (match evA c fr x with
          | some a => decide (loadA c.P h t a = loadA c.P h' t a)
          | none => false)
        | _ => false
      | none => true)
def mtF (c : Ctx) (ops : Array Oper) : Nat → AFrame → AHeap → AHeap → Bool := fun k fr h h' => mutA ops (ancA ops.toList []) k || flexA c ops (ancA ops.toList []) k fr h h'
/-- The operations of a region that draws its order, in the text's order; an operation that is not ordered against all others leaves the old blocks alone. -/
def evDraw (c : Ctx) (call : CallF) (n : Nat) (ops : Array Oper) (mt : Nat → AFrame → AHeap → AHeap → Bool) : List Oper → Nat → AFrame → AHeap → Option (AFrame × AHeap)
  | [], _, fr, h => some (fr, h)
  | o :: rest, k, fr, h =>
    if wantA ops fr o then
      match evOp c call fr o.op h with
      | some (v, h') => if pureOp o.op || extOp o.op || mt k fr h h' || decide (h'.take h.length = h) then
          match putA n fr o.dst v with
          | some fr' => evDraw c call n ops mt rest (k + 1) fr' h'
          | none => none
        else none
      | none => none
    else match putA n fr o.dst undef with
      | some fr' => evDraw c call n ops mt rest (k + 1) fr' h
      | none => none
def evRegion (c : Ctx) (call : CallF) (n : Nat) (ops : Array Oper) (draw : Bool) (fr : AFrame) (h : AHeap) : Option (AFrame × AHeap) :=
  if draw then
    if chkA ops then evDraw c call n ops (mtF c ops) ops.toList 0 fr h else none
  else evOps c call n ops ops.toList fr h
inductive AExit where
  | normal
  | exit (id : Nat)
  | ret
  deriving DecidableEq
abbrev CodeR := Option (AExit × AFrame × AHeap)
def loopA (f : AFrame → AHeap → CodeR) : Nat → AFrame → AHeap → CodeR
  | 0, _, _ => none
  | k + 1, fr, h => match f fr h with
    | some (.normal, fr', h') => loopA f k fr' h'
    | r => r
def evC (c : Ctx) (call : CallF) (n k : Nat) : Code → AFrame → AHeap → CodeR
  | .skip, fr, h => some (.normal, fr, h)
  | .region _ ops draw, fr, h => match evRegion c call n ops draw fr h with
    | some (fr', h') => some (.normal, fr', h')
    | none => none
  | .seq a b, fr, h => match evC c call n k a fr h with
    | some (.normal, fr', h') => evC c call n k b fr' h'
    | r => r
  | .cond x a b, fr, h => match evA c fr x with
    | some (.bool true) => evC c call n k a fr h
    | some (.bool false) => evC c call n k b fr h
    | _ => none
  | .block id a, fr, h => match evC c call n k a fr h with
    | some (.exit i, fr', h') => if i = id then some (.normal, fr', h') else some (.exit i, fr', h')
    | r => r
  | .loop a, fr, h => loopA (evC c call n k a) k fr h
  | .exit id, fr, h => some (.exit id, fr, h)
  | .ret, fr, h => some (.ret, fr, h)
  | _, _, _ => none
def resA (P : Program) (fr : AFrame) (h : AHeap) : List ResultVar → Option (List Value)
  | [] => some []
  | .tmp t :: l => match resA P fr h l with
    | some vs => some (fget fr t :: vs)
    | none => none
  | .cell a t :: l => match loadA P h t (fget fr a), resA P fr h l with
    | some v, some vs => some (v :: vs)
    | _, _ => none
def oneA : List Value → Value
  | [v] => v
  | vs => .tuple vs.toArray
def evBody (c : Ctx) (call : CallF) (k : Nat) (fn : Func) (args : List Value) (h : AHeap) : Option (Value × AHeap) :=
  match fn.body with
  | some b =>
    if fn.name == "runtime.NumGoroutine" then none else
    match evC c call fn.ntmps k b args h with
    | some (.exit _, _, _) => none
    | some (_, fr, h') => (resA c.P fr h' fn.results.toList).map fun vs => (oneA vs, h')
    | none => none
  | none => none
/-- A call of function f: what it hands back, and the heap behind it. k: how deep calls go, and how often a loop may go round. -/
def evF (c : Ctx) : Nat → CallF
  | 0, _, _, _ => none
  | k + 1, f, args, h =>
    match c.prim f with
    | some p => p args h
    | none => match c.P.funcs[f]? with
      | some fn => evBody c (evF c k) k fn args h
      | none => none
end Go.Abs
/- Abs3: how the abstract heap and values stand to the model's; the relation is kept where environments grow. Conditions: none. -/
namespace Go.Abs
/-- Where an abstract block lies: the model's block, the first cell; how many cells the model's block has; the cells of an element. -/
structure Ent where
  blk : Nat
  base : Nat
  csz : Nat
  esz : Nat
abbrev Env := Nat → Option Ent
inductive VR (E : Env) : Value → Value → Prop
  | bool (b : Bool) : VR E (.bool b) (.bool b)
  | int (k : IntKind) (n : Int) : VR E (.int k n) (.int k n)
  | float (k : FloatKind) (n : Nat) : VR E (.float k n) (.float k n)
  | complex (k : FloatKind) (n m : Nat) : VR E (.complex k n m) (.complex k n m)
  | string (s : ByteArray) : VR E (.string s) (.string s)
  | nilptr : VR E (.pointer none) (.pointer none)
  | ptr {b o : Nat} {e : Ent} (h : E b = some e) : VR E (.pointer (some ⟨b, o, none⟩)) (.pointer (some ⟨e.blk, e.base + o, none⟩))
  | nilsl : VR E (.slice none 0 0) (.slice none 0 0)
  | sl {b o n m off cap : Nat} {e : Ent} (h : E b = some e) (h1 : n ≤ cap) (h2 : cap ≠ 0 → off + cap * e.esz ≤ e.csz) (h3 : n ≠ 0 → off = e.base + o) :
      VR E (.slice (some ⟨b, o, none⟩) n m) (.slice (some ⟨e.blk, off, none⟩) n cap)
  | func (fn : Fn) {xs ys cs ds : Array Value} (h1 : xs.size = ys.size) (h2 : cs.size = ds.size) (h3 : ∀ i, i < xs.size → VR E (xs.getD i undef) (ys.getD i undef))
      (h4 : ∀ i, i < cs.size → VR E (cs.getD i undef) (ds.getD i undef)) : VR E (.func fn xs cs) (.func fn ys ds)
  | nilFunc : VR E .nilFunc .nilFunc
  | nilIface : VR E .nilIface .nilIface
  | iface (t : TypeId) {v v' : Value} (h : VR E v v') : VR E (.iface t v) (.iface t v')
  | agg {xs ys : Array Value} (h1 : xs.size = ys.size) (h3 : ∀ i, i < xs.size → VR E (xs.getD i undef) (ys.getD i undef)) : VR E (.agg xs) (.agg ys)
  | tuple {xs ys : Array Value} (h1 : xs.size = ys.size) (h3 : ∀ i, i < xs.size → VR E (xs.getD i undef) (ys.getD i undef)) : VR E (.tuple xs) (.tuple ys)
def LR (E : Env) (xs ys : List Value) : Prop := xs.length = ys.length ∧ ∀ (i : Nat) v, xs[i]? = some v → ∃ v', ys[i]? = some v' ∧ VR E v v'
theorem LR.nil (E : Env) : LR E [] [] := ⟨rfl, by simp⟩
theorem LR.cons {E : Env} {v v' : Value} {xs ys : List Value} (h : VR E v v') (hl : LR E xs ys) : LR E (v :: xs) (v' :: ys) := by
  refine ⟨by simp [hl.1], fun i u hu => ?_⟩
  cases i with
  | zero => simp at hu; subst hu; exact ⟨v', rfl, h⟩
  | succ i => exact hl.2 i u (by simpa using hu)
theorem LR.uncons {E : Env} {v v' : Value} {xs ys : List Value} (h : LR E (v :: xs) (v' :: ys)) : VR E v v' ∧ LR E xs ys := by
  refine ⟨?_, by have := h.1; simpa using this, fun i u hu => h.2 (i + 1) u (by simpa using hu)⟩
  obtain ⟨u, hu, hr⟩ := h.2 0 v rfl
  simp at hu; subst hu; exact hr
theorem LR.cases {E : Env} {v : Value} {xs ys : List Value} (h : LR E (v :: xs) ys) : ∃ v' zs, ys = v' :: zs ∧ VR E v v' ∧ LR E xs zs := by
  cases ys with
  | nil => exact absurd h.1 (by simp)
  | cons v' zs => exact ⟨v', zs, rfl, h.uncons.1, h.uncons.2⟩
theorem LR.append {E : Env} : ∀ {xs ys us vs : List Value}, LR E xs ys → LR E us vs → LR E (xs ++ us) (ys ++ vs)
  | [], [], _, _, _, h => h
  | [], _ :: _, _, _, h, _ => absurd h.1 (by simp)
  | _ :: _, [], _, _, h, _ => absurd h.1 (by simp)
  | x :: xs, y :: ys, _, _, h, h' => LR.cons h.uncons.1 (LR.append h.uncons.2 h')
theorem LR.take {E : Env} {xs ys : List Value} (n : Nat) (h : LR E xs ys) : LR E (xs.take n) (ys.take n) := by
  refine ⟨by simp [h.1], fun i v hv => ?_⟩
  rw [List.getElem?_take] at hv ⊢
  split at hv
  · rename_i hi; rw [if_pos hi]; exact h.2 i v hv
  · cases hv
theorem LR.drop {E : Env} {xs ys : List Value} (n : Nat) (h : LR E xs ys) : LR E (xs.drop n) (ys.drop n) := by
  refine ⟨by simp [h.1], fun i v hv => ?_⟩
  rw [List.getElem?_drop] at hv ⊢
  exact h.2 _ v hv
theorem arr_getD (xs : Array Value) (i : Nat) (h : i < xs.size) : xs.toList[i]? = some (xs.getD i undef) := by
  simp [Array.getD, h]
theorem LR.of_arr {E : Env} {xs ys : Array Value} (h1 : xs.size = ys.size) (h : ∀ i, i < xs.size → VR E (xs.getD i undef) (ys.getD i undef)) : LR E xs.toList ys.toList := by
  refine ⟨by simpa using h1, fun i v hv => ?_⟩
  have hi : i < xs.size := by
    rcases Nat.lt_or_ge i xs.size with h' | h'
    · exact h'
    · rw [List.getElem?_eq_none (by simpa using h')] at hv; cases hv
  rw [arr_getD xs i hi] at hv
  cases hv
  exact ⟨_, arr_getD ys i (h1 ▸ hi), h i hi⟩
theorem LR.arr {E : Env} {xs ys : List Value} (h : LR E xs ys) : xs.toArray.size = ys.toArray.size ∧ ∀ i, i < xs.toArray.size → VR E (xs.toArray.getD i undef) (ys.toArray.getD i undef) := by
  refine ⟨by simpa using h.1, fun i hi => ?_⟩
  have h1 := arr_getD xs.toArray i hi
  simp only [] at h1
  obtain ⟨v', h2, h3⟩ := h.2 i _ h1
  have hi' : i < ys.toArray.size := by have := h.1; simp at hi ⊢; omega
  have h4 := arr_getD ys.toArray i hi'
  simp only [] at h4
  rw [h4] at h2; cases h2
  exact h3
theorem VR.agg' {E : Env} {xs ys : List Value} (h : LR E xs ys) : VR E (.agg xs.toArray) (.agg ys.toArray) := .agg h.arr.1 h.arr.2
theorem VR.tuple' {E : Env} {xs ys : List Value} (h : LR E xs ys) : VR E (.tuple xs.toArray) (.tuple ys.toArray) := .tuple h.arr.1 h.arr.2
theorem VR.func' {E : Env} (fn : Fn) {xs ys cs ds : List Value} (h : LR E xs ys) (h' : LR E cs ds) : VR E (.func fn xs.toArray cs.toArray) (.func fn ys.toArray ds.toArray) :=
  .func fn h.arr.1 h'.arr.1 h.arr.2 h'.arr.2
def Env.le (E E' : Env) : Prop := ∀ id e, E id = some e → E' id = some e
theorem Env.le.refl (E : Env) : E.le E := fun _ _ h => h
theorem Env.le.trans {E E' E'' : Env} (h : E.le E') (h' : E'.le E'') : E.le E'' := fun i e he => h' i e (h i e he)
theorem VR.mono {E E' : Env} (hE : E.le E') {v v' : Value} (h : VR E v v') : VR E' v v' := by
  induction h with
  | bool b => exact .bool b
  | int k n => exact .int k n
  | float k n => exact .float k n
  | complex k n m => exact .complex k n m
  | string s => exact .string s
  | nilptr => exact .nilptr
  | ptr h => exact .ptr (hE _ _ h)
  | nilsl => exact .nilsl
  | sl h h1 h2 h3 => exact .sl (hE _ _ h) h1 h2 h3
  | func fn h1 h2 _ _ i3 i4 => exact .func fn h1 h2 i3 i4
  | nilFunc => exact .nilFunc
  | nilIface => exact .nilIface
  | iface t _ ih => exact .iface t ih
  | agg h1 _ ih => exact .agg h1 ih
  | tuple h1 _ ih => exact .tuple h1 ih
theorem LR.mono {E E' : Env} (hE : E.le E') {xs ys : List Value} (h : LR E xs ys) : LR E' xs ys :=
  ⟨h.1, fun i v hv => let ⟨v', h1, h2⟩ := h.2 i v hv; ⟨v', h1, h2.mono hE⟩⟩
/-- What holds no address is itself. -/
theorem VR.plain (E : Env) : ∀ (k : Nat) (v : Value), plainV k v = true → VR E v v
  | 0, _, h => by simp [plainV] at h
  | k + 1, v, h => by
    have arr : ∀ cs : Array Value, cs.toList.all (plainV k) = true → ∀ i, i < cs.size → VR E (cs.getD i undef) (cs.getD i undef) := fun cs hc i hi =>
      VR.plain E k _ (List.all_eq_true.1 hc _ (List.mem_of_getElem? (arr_getD cs i hi)))
    cases v with
    | bool b => exact .bool b
    | int k n => exact .int k n
    | float k n => exact .float k n
    | complex k n m => exact .complex k n m
    | string s => exact .string s
    | pointer a => cases a with
      | none => exact .nilptr
      | some a => simp [plainV] at h
    | slice a n m => cases a with
      | none => cases n with
        | zero => cases m with
          | zero => exact .nilsl
          | succ m => simp [plainV] at h
        | succ n => simp [plainV] at h
      | some a => simp [plainV] at h
    | map r => simp [plainV] at h
    | chan r => simp [plainV] at h
    | func fn xs cs =>
      simp only [plainV, Bool.and_eq_true] at h
      exact .func fn rfl rfl (arr xs h.1) (arr cs h.2)
    | nilFunc => exact .nilFunc
    | iface t v => simp only [plainV] at h; exact .iface t (VR.plain E k v h)
    | nilIface => exact .nilIface
    | agg cs => simp only [plainV] at h; exact .agg rfl (arr cs h)
    | tuple cs => simp only [plainV] at h; exact .tuple rfl (arr cs h)
/-- What holds no address is related to itself alone. -/
theorem VR.plain_eq {E : Env} : ∀ (k : Nat) {v v' : Value}, plainV k v = true → VR E v v' → v' = v
  | 0, _, _, h, _ => by simp [plainV] at h
  | k + 1, v, v', h, hr => by
    have arr : ∀ {xs ys : Array Value}, xs.size = ys.size → (∀ i, i < xs.size → VR E (xs.getD i undef) (ys.getD i undef)) → xs.toList.all (plainV k) = true → ys = xs := by
      intro xs ys h1 h2 h3
      apply Array.ext' 
      apply List.ext_getElem?
      intro i
      by_cases hi : i < xs.size
      · rw [arr_getD xs i hi, arr_getD ys i (h1 ▸ hi)]
        congr 1
        exact VR.plain_eq k (List.all_eq_true.1 h3 _ (List.mem_of_getElem? (arr_getD xs i hi))) (h2 i hi)
      · rw [List.getElem?_eq_none (by simp; omega), List.getElem?_eq_none (by simp; omega)]
    cases hr with
    | ptr h' => simp [plainV] at h
    | sl h' _ _ _ => simp [plainV] at h
    | func fn h1 h2 h3 h4 => simp only [plainV, Bool.and_eq_true] at h; rw [arr h1 h3 h.1, arr h2 h4 h.2]
    | iface t h' => simp only [plainV] at h; rw [VR.plain_eq k h h']
    | agg h1 h3 => simp only [plainV] at h; rw [arr h1 h3 h]
    | tuple h1 h3 => simp only [plainV] at h; rw [arr h1 h3 h]
    | _ => rfl
theorem LR.plain (E : Env) (k : Nat) (xs : List Value) (h : xs.all (plainV k) = true) : LR E xs xs :=
  ⟨rfl, fun _ v hv => ⟨v, hv, VR.plain E k v (List.all_eq_true.1 h _ (List.mem_of_getElem? hv))⟩⟩
def wrO : AObj → Bool
  | .cells k => !k.ro
  | .iter _ _ => true
theorem fzOld {fz : Nat × Nat} {n : Nat} (h : fz.1 = fz.2 ∨ n ≤ fz.1) : ∀ j, j < n → ¬ (fz.1 ≤ j ∧ j < fz.2) := by omega
/-- What lies at an abstract block's place. -/
def OR (E : Env) (w : World) (e : Ent) : AObj → Prop
  | .cells k => ∃ c el fz, w.heap[e.blk]? = some (.cells c el fz) ∧ c.size = e.csz ∧ k.esz = e.esz ∧ (∀ (j : Nat) v, k.cells[j]? = some v → ∃ v', c[e.base + j]? = some v' ∧ VR E v v') ∧
      (k.ro = false → fz.1 = fz.2 ∨ c.size ≤ fz.1)
  | .iter s p => e.base = 0 ∧ w.heap[e.blk]? = some (.stringIter s p)
structure Sim (G : Nat → Option Nat) (B : Nat) (E : Env) (h : AHeap) (w : World) : Prop where
  obj : ∀ (id : Nat) o e, h[id]? = some (some o) → E id = some e → OR E w e o
  low : ∀ (id : Nat) o e, h[id]? = some (some o) → E id = some e → wrO o = true → B ≤ e.blk
  apart : ∀ (i j : Nat) oi oj ei ej, i ≠ j → h[i]? = some (some oi) → h[j]? = some (some oj) → E i = some ei → E j = some ej → wrO oi = true → ei.blk ≠ ej.blk
  base : B ≤ w.heap.size
  glob : ∀ g id, G g = some id → ∃ e, E id = some e ∧ e.blk = g ∧ e.base = 0
/-- The model's blocks that may be written. -/
def Wr (E : Env) (h : AHeap) (x : Nat) : Prop := ∃ (id : Nat) (o : AObj) (e : Ent), h[id]? = some (some o) ∧ wrO o = true ∧ E id = some e ∧ e.blk = x
structure Post (G : Nat → Option Nat) (B : Nat) (E E' : Env) (h h' : AHeap) (w w' : World) : Prop where
  le : E.le E'
  len : h.length ≤ h'.length
  new : ∀ id, E' id ≠ E id → h.length ≤ id ∧ id < h'.length
  sim : Sim G B E' h' w'
  os : w'.os = w.os
  tape : w'.tape = w.tape
  output : w'.output = w.output
  size : w.heap.size ≤ w'.heap.size
  frame : ∀ x, x < w.heap.size → ¬ Wr E h x → w'.heap[x]? = w.heap[x]?
  wr : ∀ x, Wr E' h' x → Wr E h x ∨ w.heap.size ≤ x
  fresh : ∀ id e, E' id = some e → E id = none → Wr E h e.blk ∨ w.heap.size ≤ e.blk
theorem OR.lt {E : Env} {w : World} {e : Ent} {o : AObj} (h : OR E w e o) : e.blk < w.heap.size := by
  have : ∃ x, w.heap[e.blk]? = some x := by
    cases o with
    | cells k => obtain ⟨c, el, fz, h1, _⟩ := h; exact ⟨_, h1⟩
    | iter s p => exact ⟨_, h.2⟩
  obtain ⟨x, hx⟩ := this
  exact (Array.getElem?_eq_some_iff.1 hx).1
theorem OR.mono {E E' : Env} {w w' : World} {e : Ent} {o : AObj} (h : OR E w e o) (hE : E.le E') (hw : w'.heap[e.blk]? = w.heap[e.blk]?) : OR E' w' e o := by
  cases o with
  | cells k =>
    obtain ⟨c, el, fz, h1, h2, h3, h4, h5⟩ := h
    exact ⟨c, el, fz, hw.trans h1, h2, h3, fun j v hv => let ⟨v', p, q⟩ := h4 j v hv; ⟨v', p, q.mono hE⟩, h5⟩
  | iter s p => exact ⟨h.1, hw.trans h.2⟩
theorem Sim.heap_eq {G : Nat → Option Nat} {B : Nat} {E : Env} {h : AHeap} {w w' : World} (s : Sim G B E h w) (hh : w'.heap = w.heap) : Sim G B E h w' :=
  ⟨fun id o e h1 h2 => (s.obj id o e h1 h2).mono (Env.le.refl E) (by rw [hh]), s.low, s.apart, by rw [hh]; exact s.base, s.glob⟩
theorem Post.of_drew {G : Nat → Option Nat} {B : Nat} {E : Env} {h : AHeap} {w w' : World} (s : Sim G B E h w) (hh : w'.heap = w.heap) (ho : w'.os = w.os) (ht : w'.tape = w.tape) (hp : w'.output = w.output) :
    Post G B E E h h w w' :=
  ⟨Env.le.refl E, Nat.le_refl _, fun _ hn => absurd rfl hn, s.heap_eq hh, ho, ht, hp, by rw [hh]; exact Nat.le_refl _, fun _ _ _ => by rw [hh], fun _ hx => .inl hx, fun id e h1 h2 => by rw [h2] at h1; cases h1⟩
theorem Post.refl {G : Nat → Option Nat} {B : Nat} {E : Env} {h : AHeap} {w : World} (s : Sim G B E h w) : Post G B E E h h w w := Post.of_drew s rfl rfl rfl rfl
theorem Post.trans {G : Nat → Option Nat} {B : Nat} {E E' E'' : Env} {h h' h'' : AHeap} {w w' w'' : World} (p : Post G B E E' h h' w w') (q : Post G B E' E'' h' h'' w' w'') : Post G B E E'' h h'' w w'' := by
  refine ⟨p.le.trans q.le, Nat.le_trans p.len q.len, fun id hn => ?_, q.sim, q.os.trans p.os, q.tape.trans p.tape, q.output.trans p.output, Nat.le_trans p.size q.size, fun x hx hw => ?_, fun x hx => ?_, fun id e h1 h2 => ?_⟩
  · by_cases h1 : E' id = E id
    · have := q.new id (by rw [h1]; exact hn)
      exact ⟨Nat.le_trans p.len this.1, this.2⟩
    · have := p.new id h1
      exact ⟨this.1, Nat.lt_of_lt_of_le this.2 q.len⟩
  · rw [q.frame x (Nat.lt_of_lt_of_le hx p.size) (fun h1 => ?_), p.frame x hx hw]
    rcases p.wr x h1 with h2 | h2
    · exact hw h2
    · omega
  · rcases q.wr x hx with h1 | h1
    · exact p.wr x h1
    · exact .inr (Nat.le_trans p.size h1)
  · cases h3 : E' id with
    | none =>
      rcases q.fresh id e h1 h3 with h4 | h4
      · exact p.wr _ h4
      · exact .inr (Nat.le_trans p.size h4)
    | some e1 =>
      have := q.le id e1 h3
      rw [h1] at this; cases this
      exact p.fresh id e h3 h2
theorem Post.below {G : Nat → Option Nat} {B : Nat} {E E' : Env} {h h' : AHeap} {w w' : World} (s : Sim G B E h w) (p : Post G B E E' h h' w w') : Go.RowKit.Below B w w' :=
  ⟨p.os, p.tape, p.output, p.size, fun k hk => p.frame k (Nat.lt_of_lt_of_le hk s.base) (fun ⟨id, o, e, h1, h2, h3, h4⟩ => by have := s.low id o e h1 h3 h2; omega)⟩
/-- The places that a step will give to its new blocks are free. -/
def Free (E : Env) (h h' : AHeap) : Prop := ∀ id, h.length ≤ id → id < h'.length → E id = none
end Go.Abs
/- Abs4: the operations that ask nothing of memory: what the evaluator gives is what the model gives. Conditions: none. -/
namespace Go.Abs
theorem addr_add (b o k : Nat) : (⟨b, o, none⟩ : Addr).add k = ⟨b, o + k, none⟩ := by
  unfold Addr.add; split <;> simp_all
def FR (E : Env) (n : Nat) (fr : AFrame) (tmps : Array Value) : Prop := n ≤ tmps.size ∧ ∀ t, VR E (fget fr t) (tmps.getD t undef)
def GR (G : Nat → Option Nat) (E : Env) : Prop := ∀ g id, G g = some id → ∃ e, E id = some e ∧ e.blk = g ∧ e.base = 0
theorem fget_fset_same : ∀ (fr : AFrame) (d : Nat) (v : Value), fget (fset fr d v) d = v
  | [], 0, _ => rfl
  | [], d + 1, v => fget_fset_same [] d v
  | _ :: _, 0, _ => rfl
  | _ :: l, d + 1, v => fget_fset_same l d v
theorem fget_nil : ∀ t, fget [] t = undef := fun t => by cases t <;> rfl
theorem fget_fset_ne : ∀ (fr : AFrame) (d t : Nat) (v : Value), t ≠ d → fget (fset fr d v) t = fget fr t
  | [], 0, 0, _, h => absurd rfl h
  | [], 0, t + 1, v, _ => by simp [fset, fget]
  | [], d + 1, 0, v, _ => rfl
  | [], d + 1, t + 1, v, h => by
    have := fget_fset_ne [] d t v (fun e => h (by omega))
    simp only [fset, fget, this]
  | _ :: _, 0, 0, _, h => absurd rfl h
  | _ :: _, 0, t + 1, _, _ => rfl
  | _ :: _, d + 1, 0, _, _ => rfl
  | _ :: l, d + 1, t + 1, v, h => fget_fset_ne l d t v (fun e => h (by omega))
theorem VR.undef (E : Env) : VR E undef undef := VR.plain E 2 _ rfl
section
variable {c : Ctx} {E : Env} {n : Nat} {fr : AFrame} {a : Act}
theorem FR.mono {E' : Env} {tmps : Array Value} (h : FR E n fr tmps) (hE : E.le E') : FR E' n fr tmps := ⟨h.1, fun t => (h.2 t).mono hE⟩
theorem evA_sim (hf : FR E n fr a.tmps) (hg : GR c.G E) {x : Operand} {v : Value} (h : evA c fr x = some v) : VR E v (a.eval x) := by
  cases x with
  | tmp t => simp only [evA, Option.some.injEq] at h; subst h; exact hf.2 t
  | const u =>
    simp only [evA] at h
    split at h
    · rename_i hp; cases h; exact VR.plain E 4 _ hp
    · cases h
  | global g =>
    simp only [evA, Option.map_eq_some_iff] at h
    obtain ⟨id, h1, rfl⟩ := h
    obtain ⟨e, h2, rfl, h3⟩ := hg g id h1
    have := VR.ptr (o := 0) h2
    rw [h3] at this
    exact this
  | func f => simp only [evA, Option.some.injEq] at h; subst h; exact VR.func' (.func f) (LR.nil E) (LR.nil E)
theorem evL_sim (hf : FR E n fr a.tmps) (hg : GR c.G E) : ∀ {l : List Operand} {vs : List Value}, evL c fr l = some vs → LR E vs (l.map a.eval)
  | [], vs, h => by simp only [evL, Option.some.injEq] at h; subst h; exact LR.nil E
  | x :: l, vs, h => by
    simp only [evL] at h
    split at h
    · rename_i v us h1 h2; cases h; exact LR.cons (evA_sim hf hg h1) (evL_sim hf hg h2)
    · cases h
end
theorem run_under {P : Program} {t : TypeId} {d : TypeDesc} (h : P.underlying t = some d) (w : World) : (underlying t).run P w = .ok d w := by
  simp [underlying, h]
theorem run_size {P : Program} {t : TypeId} {n : Nat} (h : sizeA P t = some n) (w : World) : (sizeOf t).run P w = .ok n w := by
  simp only [sizeA, Option.map_eq_some_iff] at h
  obtain ⟨i, h1, rfl⟩ := h
  simp [sizeOf, typeInfo, h1]
theorem run_agg {P : Program} {t : TypeId} {b : Bool} (h : isAggA P t = some b) (w : World) : (isAgg t).run P w = .ok b w := by
  unfold isAggA at h
  cases hu : P.underlying t with
  | none => simp [hu] at h
  | some d =>
    rw [hu] at h
    simp only [isAgg, Sem.run_bind, run_under hu, Result.andThen_ok]
    cases d <;> simp_all
theorem qrun_sound {α : Type} {P : Program} : ∀ {s : Sem α} {x : α}, qrun P s = some x → ∀ w, s.run P w = .ok x w
  | .pure a, x, h, w => by simp only [qrun, Option.some.injEq] at h; subst h; rfl
  | .program k, x, h, w => by simp only [qrun] at h; exact qrun_sound (s := k P) h w
  | .mark m k, x, h, w => by simp only [qrun] at h; exact qrun_sound (s := k) h w
  | .load .., x, h, w => by simp [qrun] at h
  | .store .., x, h, w => by simp [qrun] at h
  | .new .., x, h, w => by simp [qrun] at h
  | .shape .., x, h, w => by simp [qrun] at h
  | .freeze .., x, h, w => by simp [qrun] at h
  | .frozen .., x, h, w => by simp [qrun] at h
  | .getObj .., x, h, w => by simp [qrun] at h
  | .setObj .., x, h, w => by simp [qrun] at h
  | .choose .., x, h, w => by simp [qrun] at h
  | .sys .., x, h, w => by simp [qrun] at h
  | .halt .., x, h, w => by simp [qrun] at h
/-! ### arithmetic and comparisons -/
theorem toList_data (s : ByteArray) : s.toList = s.data.toList := ByteArray.toList_eq s
theorem str_eq (a b : ByteArray) : (a.toList == b.toList) = decide (a = b) := by
  rw [toList_data, toList_data, Bool.eq_iff_iff]
  simp only [beq_iff_eq, decide_eq_true_eq]
  exact ⟨fun h => by cases a; cases b; simp_all [Array.toList_inj], fun h => by rw [h]⟩
theorem str_eq' (a b : ByteArray) : (a.data.toList == b.data.toList) = decide (a = b) := by
  rw [← toList_data, ← toList_data, str_eq]
theorem eqGuard_int (P : Program) (op : BinOp) (t : TypeId) (x y : Operand) (k k' : IntKind) (a b : Int) (w : World) : (eqGuard op t x y (.int k a) (.int k' b)).run P w = .ok () w := by
  cases op <;> rfl
theorem eqGuard_str (P : Program) (op : BinOp) (t : TypeId) (x y : Operand) (a b : ByteArray) (w : World) : (eqGuard op t x y (.string a) (.string b)).run P w = .ok () w := by
  cases op <;> rfl
theorem eqGuard_bool (P : Program) (op : BinOp) (t : TypeId) (x y : Operand) (a b : Bool) (w : World) : (eqGuard op t x y (.bool a) (.bool b)).run P w = .ok () w := by
  cases op <;> rfl
theorem intBin_run {P : Program} {op : BinOp} {t : TypeId} {k : IntKind} {x y : Int} {v : Value} (h : intBinA op k x y = some v) (hs : op ≠ .shl) (hr : op ≠ .shr) (w : World) :
    (binOp op t (.int k x) (.int k y)).run P w = .ok v w := by
  cases op
  case quo => 
    simp only [intBinA] at h
    split at h
    · cases h
    · rename_i hy; cases h; simp [binOp, Op.intDiv, hy]
  case rem =>
    simp only [intBinA] at h
    split at h
    · cases h
    · rename_i hy; cases h; simp [binOp, Op.intDiv, hy]
  all_goals simp_all [intBinA, binOp, Op.intArith, Op.intBits, Op.intCmp]
  all_goals (subst h; first | rfl | (congr 1; rw [Bool.eq_iff_iff]; simp))
theorem shift_run {P : Program} {op : BinOp} {t : TypeId} {k k' : IntKind} {x y : Int} {v : Value} (h : shiftA op k x y = some v) (ho : op = .shl ∨ op = .shr) (w : World) :
    (binOp op t (.int k x) (.int k' y)).run P w = .ok v w := by
  unfold shiftA at h
  split at h
  · cases h
  · rename_i hy
    rcases ho with rfl | rfl
    · simp at h; subst h; simp [binOp, Op.shift, hy]
    · simp at h; subst h; simp [binOp, Op.shift, hy]
theorem str_run {P : Program} {op : BinOp} {t : TypeId} {x y : ByteArray} {v : Value} (h : strBinA op x y = some v) (w : World) :
    (binOp op t (.string x) (.string y)).run P w = .ok v w := by
  cases op
  case add =>
    simp only [strBinA] at h
    split at h
    · rename_i hy; cases h; have h2 : ¬ ((x.size + y.size : Nat) : Int) > IntKind.i64.max := by simp only [IntKind.max, IntKind.signed, IntKind.bits]; omega
      simp only [binOp, Op.stringOp]; rw [if_neg h2]; rfl
    · cases h
  all_goals (simp only [strBinA, Option.some.injEq, reduceCtorEq] at h)
  all_goals (subst h; simp only [binOp, Op.stringOp, lessA, toList_data, str_eq']; rfl)
theorem equalIn_bool {P : Program} {t : TypeId} (hu : P.underlying t = some .bool) (d : Nat) (x y : Bool) (w : World) : (Op.equalIn (d + 1) t (.bool x) (.bool y)).run P w = .ok (x == y) w := by
  simp only [Op.equalIn, Sem.run_bind, run_under hu, Result.andThen_ok, Sem.run_pure]
theorem run_eql_of {P : Program} {t : TypeId} {x y : Value} {b : Bool} {w : World} (h : (Op.equal t x y).run P w = .ok b w) : ((do pure (.bool (← Op.equal t x y))) : Sem Value).run P w = .ok (.bool b) w := by
  simp only [Sem.run_bind, h, Result.andThen_ok, Sem.run_pure]
theorem run_neq_of {P : Program} {t : TypeId} {x y : Value} {b : Bool} {w : World} (h : (Op.equal t x y).run P w = .ok b w) : ((do pure (.bool (!(← Op.equal t x y)))) : Sem Value).run P w = .ok (.bool (!b)) w := by
  simp only [Sem.run_bind, h, Result.andThen_ok, Sem.run_pure]
theorem bool_run {P : Program} {op : BinOp} {t : TypeId} {x y : Bool} {v : Value} (ht : isBoolT P t = true) (h : (match op with | .eql => some (Value.bool (x == y)) | .neq => some (.bool (!(x == y))) | _ => none) = some v) (w : World) :
    (binOp op t (.bool x) (.bool y)).run P w = .ok v w := by
  have hu : P.underlying t = some .bool := by
    unfold isBoolT at ht
    split at ht
    · assumption
    · cases ht
  have he : (Op.equal t (.bool x) (.bool y)).run P w = .ok (x == y) w := equalIn_bool hu 9999 x y w
  cases op <;> simp only [Option.some.injEq, reduceCtorEq] at h
  · subst h; exact run_eql_of he
  · subst h; exact run_neq_of he
/-- Against nil. -/
theorem nil_equal {P : Program} {t : TypeId} {x y : Value} {b : Bool} (hx : nilType P t x = true) (hy : nilType P t y = true)
    (h : (match nilA x, nilA y with | some true, some b => some b | some false, some true => some false | _, _ => none) = some b) (w : World) : (Op.equal t x y).run P w = .ok b w := by
  show (Op.equalIn (9999 + 1) t x y).run P w = _
  generalize 9999 = d
  unfold nilType at hx hy
  cases hu : P.underlying t with
  | none => simp [hu] at hx
  | some u =>
    rw [hu] at hx hy
    simp only [Op.equalIn, Sem.run_bind, run_under hu, Result.andThen_ok]
    cases u <;> cases x <;> simp only [Bool.false_eq_true] at hx <;> cases y <;> simp only [Bool.false_eq_true] at hy
    case pointer a b => cases a <;> cases b <;> simp_all [nilA]
    case slice a n m b n' m' => cases a <;> cases b <;> simp_all [nilA]
    all_goals simp_all [nilA]
theorem VR.nilA_eq {E : Env} {x x' : Value} (h : VR E x x') : nilA x' = nilA x := by cases h <;> rfl
theorem VR.nilType_eq {E : Env} {P : Program} {t : TypeId} {x x' : Value} (h : VR E x x') : nilType P t x' = nilType P t x := by
  unfold nilType
  cases P.underlying t with
  | none => rfl
  | some d => cases d <;> cases h <;> rfl
theorem eqGuard_nil {P : Program} {t : TypeId} {ox oy : Operand} {x y : Value} (op : BinOp) (hx : nilType P t x = true) (hy : nilType P t y = true) (hc : isConstA ox = true ∨ isConstA oy = true) (w : World) :
    (eqGuard op t ox oy x y).run P w = .ok () w := by
  unfold nilType at hx hy
  cases hu : P.underlying t with
  | none => simp [hu] at hx
  | some u =>
    rw [hu] at hx hy
    cases u <;> cases x <;> simp only [Bool.false_eq_true] at hx <;> cases y <;> simp only [Bool.false_eq_true] at hy
    case interface.nilIface.nilIface =>
      cases ox <;> cases oy <;> first | (simp [isConstA] at hc; done) | (cases op <;> rfl)
    all_goals (unfold eqGuard; cases op <;> rfl)
theorem intBin_vr {E : Env} {op : BinOp} {k : IntKind} {x y : Int} {v : Value} (h : intBinA op k x y = some v) : VR E v v := by
  unfold intBinA at h
  cases op <;> simp only [Option.some.injEq, reduceCtorEq] at h
  all_goals first
    | (subst h; first | exact .int _ _ | exact .bool _)
    | (split at h <;> first | (cases h; done) | (cases h; exact .int _ _))
theorem shift_vr {E : Env} {op : BinOp} {k : IntKind} {x y : Int} {v : Value} (h : shiftA op k x y = some v) : VR E v v := by
  unfold shiftA at h
  split at h
  · cases h
  · cases op <;> simp only [Option.some.injEq, reduceCtorEq] at h
    all_goals (subst h; exact .int _ _)
theorem strBin_vr {E : Env} {op : BinOp} {x y : ByteArray} {v : Value} (h : strBinA op x y = some v) : VR E v v := by
  unfold strBinA at h
  cases op <;> simp only [Option.some.injEq, reduceCtorEq] at h
  all_goals first
    | (subst h; exact .bool _)
    | (split at h <;> first | (cases h; done) | (cases h; exact .string _))
theorem eqNil_sim {E : Env} {P : Program} {op : BinOp} {t : TypeId} {ox oy : Operand} {x y x' y' v : Value} (hx : VR E x x') (hy : VR E y y')
    (h : (match op with | .eql => (eqNilA P t (isConstA ox) (isConstA oy) x y).map fun b => Value.bool b | .neq => (eqNilA P t (isConstA ox) (isConstA oy) x y).map fun b => .bool (!b) | _ => none) = some v) (w : World) :
    (do eqGuard op t ox oy x' y'; binOp op t x' y' : Sem Value).run P w = .ok v w ∧ VR E v v := by
  have key : ∀ b, eqNilA P t (isConstA ox) (isConstA oy) x y = some b → (Op.equal t x' y').run P w = .ok b w ∧ (eqGuard op t ox oy x' y').run P w = .ok () w ∧ nilType P t x' = true ∧ nilType P t y' = true := by
    intro b hb
    unfold eqNilA at hb
    split at hb
    · rename_i hh
      obtain ⟨h1, h2, h3⟩ := hh
      rw [← hx.nilType_eq] at h1
      rw [← hy.nilType_eq] at h2
      rw [← hx.nilA_eq, ← hy.nilA_eq] at hb
      exact ⟨nil_equal h1 h2 hb w, eqGuard_nil op h1 h2 h3 w, h1, h2⟩
    · cases hb
  cases op <;> simp only [Option.map_eq_some_iff, reduceCtorEq] at h
  all_goals
    obtain ⟨b, hb, rfl⟩ := h
    obtain ⟨h1, h2, h3, h4⟩ := key b hb
    refine ⟨?_, .bool _⟩
    simp only [Sem.run_bind, h2, Result.andThen_ok]
    have hsh : ∀ (z : Value), nilType P t z = true → (∀ k n, z ≠ .int k n) ∧ (∀ k n, z ≠ .float k n) ∧ (∀ k n m, z ≠ .complex k n m) ∧ (∀ s, z ≠ .string s) := by
      intro z hz
      unfold nilType at hz
      refine ⟨?_, ?_, ?_, ?_⟩ <;> (intros; intro he; subst he; cases hu : P.underlying t <;> simp_all)
    clear h2
  · have hb' : binOp .eql t x' y' = (do pure (.bool (← Op.equal t x' y'))) := by
      obtain ⟨a1, a2, a3, a4⟩ := hsh x' h3
      cases x' <;> first | rfl | (exact absurd rfl (a1 _ _)) | (exact absurd rfl (a2 _ _)) | (exact absurd rfl (a3 _ _ _)) | (exact absurd rfl (a4 _))
    rw [hb']; exact run_eql_of h1
  · have hb' : binOp .neq t x' y' = (do pure (.bool (!(← Op.equal t x' y')))) := by
      obtain ⟨a1, a2, a3, a4⟩ := hsh x' h3
      cases x' <;> first | rfl | (exact absurd rfl (a1 _ _)) | (exact absurd rfl (a2 _ _)) | (exact absurd rfl (a3 _ _ _)) | (exact absurd rfl (a4 _))
    rw [hb']; exact run_neq_of h1
end Go.Abs
/- Abs5: the operations that ask nothing of memory, all of them. Conditions: none. -/
namespace Go.Abs
theorem VR.cells {E : Env} {v v' : Value} (h : VR E v v') : LR E v.cells.toList v'.cells.toList := by
  cases h with
  | agg h1 h3 => exact LR.of_arr h1 h3
  | bool b => exact LR.cons (.bool b) (LR.nil E)
  | int k n => exact LR.cons (.int k n) (LR.nil E)
  | float k n => exact LR.cons (.float k n) (LR.nil E)
  | complex k n m => exact LR.cons (.complex k n m) (LR.nil E)
  | string s => exact LR.cons (.string s) (LR.nil E)
  | nilptr => exact LR.cons .nilptr (LR.nil E)
  | ptr h => exact LR.cons (.ptr h) (LR.nil E)
  | nilsl => exact LR.cons .nilsl (LR.nil E)
  | sl h h1 h2 h3 => exact LR.cons (.sl h h1 h2 h3) (LR.nil E)
  | func fn h1 h2 h3 h4 => exact LR.cons (.func fn h1 h2 h3 h4) (LR.nil E)
  | nilFunc => exact LR.cons .nilFunc (LR.nil E)
  | nilIface => exact LR.cons .nilIface (LR.nil E)
  | iface t h => exact LR.cons (.iface t h) (LR.nil E)
  | tuple h1 h3 => exact LR.cons (.tuple h1 h3) (LR.nil E)
theorem VR.csize {E : Env} {v v' : Value} (h : VR E v v') : v'.cells.size = v.cells.size := by
  have := h.cells.1; simpa using this.symm
theorem VR.one {E : Env} {v v' : Value} (h : VR E v v') : oneCellA v' = oneCellA v := by cases h <;> rfl
theorem LR.set {E : Env} {xs ys : List Value} {v v' : Value} (i : Nat) (h : LR E xs ys) (hv : VR E v v') : LR E (xs.set i v) (ys.set i v') := by
  refine ⟨by simp [h.1], fun j u hu => ?_⟩
  rw [List.getElem?_set] at hu
  by_cases hij : i = j
  · subst hij
    rw [if_pos rfl] at hu
    split at hu
    · rename_i hi
      cases hu
      exact ⟨v', by rw [List.getElem?_set, if_pos rfl, if_pos (by rw [← h.1]; exact hi)], hv⟩
    · cases hu
  · rw [if_neg hij] at hu
    obtain ⟨u', h1, h2⟩ := h.2 j u hu
    exact ⟨u', by rw [List.getElem?_set, if_neg hij]; exact h1, h2⟩
theorem LR.getA {E : Env} {xs ys : Array Value} (h : LR E xs.toList ys.toList) {i : Nat} {v : Value} (hv : xs[i]? = some v) : ∃ v', ys[i]? = some v' ∧ VR E v v' := by
  obtain ⟨v', h1, h2⟩ := h.2 i v (by simpa using hv)
  exact ⟨v', by simpa using h1, h2⟩
theorem LR.size {E : Env} {xs ys : Array Value} (h : LR E xs.toList ys.toList) : ys.size = xs.size := by have := h.1; simpa using this.symm
/-- What a filler does with a part's cells. -/
theorem fold_put {E : Env} (off : Nat) : ∀ (us vs : List Value) (k : Nat) (cs ds : Array Value), LR E us vs → LR E cs.toList ds.toList →
    LR E ((us.zipIdx k).foldl (fun cs (x : Value × Nat) => cs.setIfInBounds (off + x.2) x.1) cs).toList ((vs.zipIdx k).foldl (fun cs (x : Value × Nat) => cs.setIfInBounds (off + x.2) x.1) ds).toList
  | [], vs, k, cs, ds, h, hc => by
    have : vs = [] := by have := h.1; cases vs with | nil => rfl | cons _ _ => simp at this
    subst this; simpa using hc
  | u :: us, vs, k, cs, ds, h, hc => by
    obtain ⟨v, vs, rfl, h1, h2⟩ := h.cases
    simp only [List.zipIdx_cons, List.foldl_cons]
    exact fold_put off us vs (k + 1) _ _ h2 (by simpa using hc.set (off + k) h1)
def PR (E : Env) : List (Nat × Value) → List (Nat × Value) → Prop
  | [], [] => True
  | (i, v) :: l, (j, u) :: m => i = j ∧ VR E v u ∧ PR E l m
  | _, _ => False
theorem fill_sim {E : Env} (place : Nat → Option (Nat × Nat)) : ∀ (ps qs : List (Nat × Value)) (cs ds rs : Array Value), PR E ps qs → LR E cs.toList ds.toList → Instr.fill place cs ps = some rs →
    ∃ rs', Instr.fill place ds qs = some rs' ∧ LR E rs.toList rs'.toList
  | [], [], cs, ds, rs, _, hc, h => by simp only [Instr.fill, Option.some.injEq] at h; subst h; exact ⟨ds, rfl, hc⟩
  | [], _ :: _, _, _, _, h, _, _ => absurd h (by simp [PR])
  | (i, v) :: ps, [], _, _, _, h, _, _ => absurd h (by simp [PR])
  | (i, v) :: ps, (j, u) :: qs, cs, ds, rs, h, hc, hf => by
    obtain ⟨rfl, h1, h2⟩ := h
    simp only [Instr.fill] at hf ⊢
    cases hp : place i with
    | none => simp [hp] at hf
    | some os =>
      obtain ⟨off, size⟩ := os
      simp only [hp] at hf ⊢
      rw [h1.csize, hc.size]
      split at hf
      · cases hf
      · rename_i hh
        rw [if_neg hh]
        refine fill_sim place ps qs _ _ rs h2 ?_ hf
        have := fold_put off v.cells.toList u.cells.toList 0 cs ds h1.cells hc
        have e : ∀ (xs c : Array Value), xs.zipIdx.foldl (fun cs (x : Value × Nat) => cs.setIfInBounds (off + x.2) x.1) c = xs.toList.zipIdx.foldl (fun cs (x : Value × Nat) => cs.setIfInBounds (off + x.2) x.1) c := by
          intro xs c; rw [← Array.foldl_toList, Array.toList_zipIdx]
        rw [← e, ← e] at this
        exact this
theorem run_mapM {P : Program} {α β : Type} (g : α → Sem β) (w : World) : ∀ (l : List α) (rs : List β), rs.length = l.length → (∀ (i : Nat) a r, l[i]? = some a → rs[i]? = some r → (g a).run P w = .ok r w) → (l.mapM g).run P w = .ok rs w
  | [], rs, h, _ => by
    cases rs with
    | nil => simp
    | cons _ _ => simp at h
  | a :: l, rs, h, hg => by
    cases rs with
    | nil => simp at h
    | cons r rs =>
      simp only [List.mapM_cons, Sem.run_bind, hg 0 a r rfl rfl, Result.andThen_ok, run_mapM g w l rs (by simpa using h) (fun i b s h1 h2 => hg (i + 1) b s (by simpa using h1) (by simpa using h2)), Sem.run_pure]
theorem run_places {P : Program} (w : World) : ∀ (l : List Field) (ps : List (Nat × Nat)), (l.mapM fun f => (sizeA P f.type).map fun n => (f.offset, n)) = some ps →
    ((l.mapM fun f => do pure (f.offset, ← sizeOf f.type)) : Sem (List (Nat × Nat))).run P w = .ok ps w
  | [], ps, h => by simp at h; subst h; simp
  | f :: l, ps, h => by
    simp only [List.mapM_cons, Option.bind_eq_bind, Option.bind_eq_some_iff, Option.map_eq_some_iff] at h
    obtain ⟨x, ⟨n, hn, rfl⟩, qs, hq, h3⟩ := h
    cases h3
    simp only [List.mapM_cons, Sem.run_bind, run_size hn, Result.andThen_ok, Sem.run_pure, run_places w l qs hq]
theorem run_zero {P : Program} {t : TypeId} {z : List Value} (h : zeroA P t = some z) (w : World) : ∃ v, (zeroValue t).run P w = .ok v w ∧ v.cells.toList = z ∧ z.all (plainV 3) = true := by
  unfold zeroA at h
  cases hi : P.info? t with
  | none => simp [hi] at h
  | some i =>
    simp only [hi] at h
    cases hz : i.zero with
    | none => simp [hz] at h
    | some v =>
      simp only [hz] at h
      split at h
      · rename_i hp
        cases h
        exact ⟨v, by simp [zeroValue, typeInfo, hi, hz], rfl, hp⟩
      · cases h
theorem build_sim {E : Env} {P : Program} {t : TypeId} {ps qs : List (Nat × Value)} {v : Value} (hp : PR E ps qs) (h : buildA P t ps = some v) (w : World) :
    ∃ v', (Instr.build t qs.toArray).run P w = .ok v' w ∧ VR E v v' := by
  unfold buildA at h
  split at h
  · rename_i fs z hu hz
    split at h
    · rename_i places hpl
      simp only [Option.map_eq_some_iff] at h
      obtain ⟨rs, h1, rfl⟩ := h
      obtain ⟨zv, hz1, hz2, hz3⟩ := run_zero hz w
      obtain ⟨rs', h2, h3⟩ := fill_sim (places[·]?) ps qs z.toArray zv.cells rs hp (by rw [hz2]; exact LR.plain E 3 z hz3) h1
      refine ⟨.agg rs', ?_, by simpa using VR.agg' h3⟩
      have hm : (fs.mapM fun f => do pure (f.offset, ← sizeOf f.type) : Sem (Array (Nat × Nat))).run P w = .ok places.toArray w := by
        rw [Array.mapM_eq_mapM_toList, Sem.run_map, run_places w _ _ hpl]; rfl
      simp only [Instr.build, Sem.run_bind, hz1, Result.andThen_ok, run_under hu, hm]
      have : (fun (x : Nat) => (places.toArray)[x]?) = (fun (x : Nat) => places[x]?) := by funext x; simp
      simp only [this, h2]
      rfl
    · cases h
  · rename_i n e z hu hz
    split at h
    · rename_i size hs
      simp only [Option.map_eq_some_iff] at h
      obtain ⟨rs, h1, rfl⟩ := h
      obtain ⟨zv, hz1, hz2, hz3⟩ := run_zero hz w
      obtain ⟨rs', h2, h3⟩ := fill_sim _ ps qs z.toArray zv.cells rs hp (by rw [hz2]; exact LR.plain E 3 z hz3) h1
      refine ⟨.agg rs', ?_, by simpa using VR.agg' h3⟩
      simp only [Instr.build, Sem.run_bind, hz1, Result.andThen_ok, run_under hu, run_size hs, h2]
      rfl
    · cases h
  · cases h
theorem evParts_sim {c : Ctx} {E : Env} {n : Nat} {fr : AFrame} {a : Act} (hf : FR E n fr a.tmps) (hg : GR c.G E) : ∀ {l : List (Nat × Operand)} {vs : List (Nat × Value)}, evParts c fr l = some vs → PR E vs (l.map fun (i, x) => (i, a.eval x))
  | [], vs, h => by simp only [evParts, Option.some.injEq] at h; subst h; simp [PR]
  | (i, x) :: l, vs, h => by
    simp only [evParts] at h
    split at h
    · rename_i v us h1 h2; cases h; exact ⟨rfl, evA_sim hf hg h1, evParts_sim hf hg h2⟩
    · cases h
theorem part_sim {E : Env} {P : Program} {t : TypeId} {cs ds : Array Value} {off : Nat} {v : Value} (hc : LR E cs.toList ds.toList) (h : partA P t cs off = some v) (w : World) :
    ∃ v', (part t ds off).run P w = .ok v' w ∧ VR E v v' := by
  unfold partA at h
  split at h
  · rename_i m ha hs
    cases h
    refine ⟨.agg (ds.extract off (off + m)), ?_, ?_⟩
    · simp only [part, Sem.run_bind, run_agg ha, Result.andThen_ok, if_true, run_size hs, Sem.run_pure]
    · have := VR.agg' ((hc.drop off).take m)
      have e1 : ∀ (xs : Array Value), ((xs.toList.drop off).take m).toArray = xs.extract off (off + m) := by
        intro xs; apply Array.ext'; simp [List.take_drop, Array.toList_extract]
      rw [e1, e1] at this
      exact this
  · rename_i m ha hs
    obtain ⟨v', h1, h2⟩ := hc.getA h
    refine ⟨v', ?_, h2⟩
    simp only [part, Sem.run_bind, run_agg ha, Result.andThen_ok, Bool.false_eq_true, if_false, h1, Sem.run_pure]
  · cases h
theorem indexAddr_sim {E : Env} {P : Program} {t : TypeId} {x i v x' i' : Value} (hx : VR E x x') (hi : VR E i i') (h : indexAddrA P t x i = some v) (w : World) :
    ∃ v', (Instr.indexAt t x' i').run P w = .ok v' w ∧ VR E v v' := by
  unfold indexAddrA at h
  split at h
  · rename_i n e b o kk k hu
    split at h
    · rename_i size hs
      split at h
      · rename_i hk
        cases h
        cases hi
        cases hx
        rename_i en he
        refine ⟨.pointer (some ⟨en.blk, en.base + (o + k.toNat * size), none⟩), ?_, .ptr he⟩
        simp only [Instr.indexAt, asIntOf, Sem.run_bind, Sem.run_pure, Result.andThen_ok, run_under hu, Instr.sureAddr]
        rw [if_pos (by simpa using hk)]
        simp only [Sem.run_bind, run_size hs, Result.andThen_ok, addr_add, Sem.run_pure, Nat.add_assoc]
      · cases h
    · cases h
  · rename_i e b o n m kk k hu
    split at h
    · rename_i size hs
      split at h
      · rename_i hk
        cases h
        cases hi
        obtain ⟨off, cap, en, rfl, he, hoff⟩ : ∃ off cap en, x' = .slice (some ⟨en.blk, off, none⟩) n cap ∧ E b = some en ∧ off = en.base + o := by
          cases hx with
          | sl he h1 h2 h3 => exact ⟨_, _, _, rfl, he, h3 (by omega)⟩
        refine ⟨.pointer (some ⟨en.blk, en.base + (o + k.toNat * size), none⟩), ?_, .ptr he⟩
        simp only [Instr.indexAt, asIntOf, Sem.run_bind, Sem.run_pure, Result.andThen_ok, run_under hu]
        rw [if_pos (by simpa using hk)]
        simp only [Sem.run_bind, run_size hs, Result.andThen_ok, addr_add, Sem.run_pure, hoff, Nat.add_assoc]
      · cases h
    · cases h
  · cases h
theorem index_sim {E : Env} {P : Program} {t : TypeId} {x i v x' i' : Value} (hx : VR E x x') (hi : VR E i i') (h : indexA P t x i = some v) (w : World) :
    ∃ v', (Instr.index t x' i').run P w = .ok v' w ∧ VR E v v' := by
  unfold indexA at h
  split at h
  · rename_i n e cs kk k hu
    split at h
    · rename_i size hs
      split at h
      · rename_i hk
        cases hi
        cases hx
        rename_i ds h1 h3
        obtain ⟨v', hv, hr⟩ := part_sim (LR.of_arr h1 h3) h w
        refine ⟨v', ?_, hr⟩
        simp only [Instr.index, asIntOf, Sem.run_bind, Sem.run_pure, Result.andThen_ok, run_under hu]
        rw [if_pos (by simpa using hk)]
        simp only [Sem.run_bind, run_size hs, Result.andThen_ok, hv]
      · cases h
    · cases h
  · rename_i s kk k hu
    split at h
    · rename_i hk
      simp only [Option.map_eq_some_iff] at h
      obtain ⟨b, hb, rfl⟩ := h
      cases hi
      cases hx
      refine ⟨_, ?_, .int _ _⟩
      have hb' : s[k.toNat]? = some b := by
        rw [Array.getElem?_eq_some_iff] at hb
        obtain ⟨h1, h2⟩ := hb
        have h1' : k.toNat < s.size := h1
        rw [getElem?_pos s k.toNat h1']
        exact congrArg some h2
      simp only [Instr.index, asIntOf, Sem.run_bind, Sem.run_pure, Result.andThen_ok, run_under hu]
      rw [if_pos hk, hb']
      rfl
    · cases h
  · cases h
theorem len_sim {E : Env} {P : Program} {t : TypeId} {x v x' : Value} {ts : Array TypeId} {ty : TypeId} (ht : ts[0]? = some t) (hx : VR E x x') (h : lenA P t x = some v) (w : World) :
    (Builtin.len_ ts ty #[x']).run P w = .ok v w ∧ VR E v v := by
  unfold lenA at h
  have ht' : ts.toList[0]? = some t := by simpa using ht
  split at h
  · rename_i s hu
    cases h; cases hx
    exact ⟨by simp [Builtin.len_, ht, run_under hu, goInt], .int _ _⟩
  · rename_i e a n m hu
    cases h
    cases hx with
    | nilsl => exact ⟨by simp [Builtin.len_, ht, run_under hu, goInt], .int _ _⟩
    | sl he h1 h2 h3 => exact ⟨by simp [Builtin.len_, ht, run_under hu, goInt], .int _ _⟩
  · rename_i n e hu
    cases h
    exact ⟨by simp [Builtin.len_, ht, run_under hu, goInt], .int _ _⟩
  · cases h
theorem foldMin_sim {E : Env} {P : Program} (w : World) : ∀ (l l' : List Value) (x x' v : Value), VR E x x' → LR E l l' → foldA min2A x l = some v → (l'.foldlM Builtin.min2 x').run P w = .ok v w ∧ VR E v v ∨ (l = [] ∧ v = x)
  | [], l', x, x', v, hx, hl, h => by simp only [foldA, Option.some.injEq] at h; exact .inr ⟨rfl, h.symm⟩
  | y :: l, l', x, x', v, hx, hl, h => by
    obtain ⟨y', l', rfl, hy, hl2⟩ := hl.cases
    simp only [foldA] at h
    split at h
    · rename_i z hz
      unfold min2A at hz
      split at hz
      · cases hz; cases hx; cases hy
        rename_i k a k' b
        refine .inl ?_
        have hm : (Builtin.min2 (.int k a) (.int k' b)).run P w = .ok (.int k (if b < a then b else a)) w := by simp [Builtin.min2]
        rcases foldMin_sim w l l' _ _ v (.int k _) hl2 h with h1 | ⟨rfl, rfl⟩
        · exact ⟨by simp only [List.foldlM_cons, Sem.run_bind, hm, Result.andThen_ok]; exact h1.1, h1.2⟩
        · have : l' = [] := by have := hl2.1; cases l' with | nil => rfl | cons _ _ => simp at this
          subst this
          exact ⟨by simp [hm], .int _ _⟩
      · cases hz
    · cases h
theorem foldMax_sim {E : Env} {P : Program} (w : World) : ∀ (l l' : List Value) (x x' v : Value), VR E x x' → LR E l l' → foldA max2A x l = some v → (l'.foldlM Builtin.max2 x').run P w = .ok v w ∧ VR E v v ∨ (l = [] ∧ v = x)
  | [], l', x, x', v, hx, hl, h => by simp only [foldA, Option.some.injEq] at h; exact .inr ⟨rfl, h.symm⟩
  | y :: l, l', x, x', v, hx, hl, h => by
    obtain ⟨y', l', rfl, hy, hl2⟩ := hl.cases
    simp only [foldA] at h
    split at h
    · rename_i z hz
      unfold max2A at hz
      split at hz
      · cases hz; cases hx; cases hy
        rename_i k a k' b
        refine .inl ?_
        have hm : (Builtin.max2 (.int k a) (.int k' b)).run P w = .ok (.int k (if b > a then b else a)) w := by simp [Builtin.max2]
        rcases foldMax_sim w l l' _ _ v (.int k _) hl2 h with h1 | ⟨rfl, rfl⟩
        · exact ⟨by simp only [List.foldlM_cons, Sem.run_bind, hm, Result.andThen_ok]; exact h1.1, h1.2⟩
        · have : l' = [] := by have := hl2.1; cases l' with | nil => rfl | cons _ _ => simp at this
          subst this
          exact ⟨by simp [hm], .int _ _⟩
      · cases hz
    · cases h
theorem bin_sim {E : Env} {P : Program} {op : BinOp} {t : TypeId} {ox oy : Operand} {x y x' y' v : Value} (hx : VR E x x') (hy : VR E y y') (h : binA P op t (isConstA ox) (isConstA oy) x y = some v) (w : World) :
    (do eqGuard op t ox oy x' y'; binOp op t x' y' : Sem Value).run P w = .ok v w ∧ VR E v v := by
  unfold binA at h
  split at h
  · cases hx; cases hy
    simp only [Sem.run_bind, eqGuard_int, Result.andThen_ok]
    split at h
    · exact ⟨shift_run h (.inl rfl) w, shift_vr h⟩
    · exact ⟨shift_run h (.inr rfl) w, shift_vr h⟩
    · rename_i h1 h2
      split at h
      · rename_i hk; subst hk
        exact ⟨intBin_run h h1 h2 w, intBin_vr h⟩
      · cases h
  · cases hx; cases hy
    simp only [Sem.run_bind, eqGuard_str, Result.andThen_ok]
    exact ⟨str_run h w, strBin_vr h⟩
  · cases hx; cases hy
    simp only [Sem.run_bind, eqGuard_bool, Result.andThen_ok]
    split at h
    · rename_i ht
      refine ⟨bool_run ht h w, ?_⟩
      split at h <;> first | (cases h; exact .bool _) | cases h
    · cases h
  · rename_i a b
    split at h
    · rename_i hp
      simp only [Bool.and_eq_true] at hp
      rw [VR.plain_eq 4 hp.1 hx, VR.plain_eq 4 hp.2 hy]
      split at h
      case h_2 => cases h
      rename_i u hqr
      split at h
      case isFalse => cases h
      rename_i hpl
      cases h
      have hq := qrun_sound hqr w
      have hg : eqGuard op t ox oy (.agg a) (.agg b) = eqGuard op t (.tmp 0) (.tmp 0) (.agg a) (.agg b) := by cases op <;> rfl
      rw [hg]
      exact ⟨hq, VR.plain E 1 _ hpl⟩
    · cases h
  · exact eqNil_sim hx hy h w
end Go.Abs
/- Abs6: an operation that asks nothing of memory, as the model carries it out. Conditions: none. -/
namespace Go.Abs
theorem run_v {P : Program} {s : Sem Value} {v : Value} {w w' : World} (h : s.run P w = .ok v w') : ((do pure (.value (← s))) : Sem Next).run P w = .ok (.value v) w' := by
  simp only [Sem.run_bind, h, Result.andThen_ok, Sem.run_pure]
theorem arr_one {E : Env} {xs : Array Value} {x : Value} (h : LR E [x] xs.toList) : ∃ x', xs = #[x'] ∧ VR E x x' := by
  obtain ⟨x', zs, h1, h2, h3⟩ := h.cases
  have : zs = [] := by have := h3.1; cases zs with | nil => rfl | cons _ _ => simp at this
  subst this
  exact ⟨x', by apply Array.ext'; simpa using h1, h2⟩
theorem arr_two {E : Env} {xs : Array Value} {x y : Value} (h : LR E [x, y] xs.toList) : ∃ x' y', xs = #[x', y'] ∧ VR E x x' ∧ VR E y y' := by
  obtain ⟨x', zs, h1, h2, h3⟩ := h.cases
  obtain ⟨y', zs, rfl, h4, h5⟩ := h3.cases
  have : zs = [] := by have := h5.1; cases zs with | nil => rfl | cons _ _ => simp at this
  subst this
  exact ⟨x', y', by apply Array.ext'; simpa using h1, h2, h4⟩
section
variable {c : Ctx} {E : Env} {n : Nat} {fr : AFrame} {a : Act}
theorem evL_arr (hf : FR E n fr a.tmps) (hg : GR c.G E) {xs : Array Operand} {vs : List Value} (h : evL c fr xs.toList = some vs) : LR E vs (xs.map a.eval).toList := by
  rw [Array.toList_map]; exact evL_sim hf hg h
theorem pur_sim (hf : FR E n fr a.tmps) (hg : GR c.G E) {o : Oper} {v : Value} (h : purA c fr o.op = some v) (w : World) :
    ∃ v', (execOp a.eval o).run c.P w = .ok (.value v') w ∧ VR E v v' := by
  obtain ⟨dst, op, ty, pos, after, guard⟩ := o
  simp only at h
  cases op with
  | move x => exact ⟨_, rfl, evA_sim hf hg h⟩
  | assign x => exact ⟨_, rfl, evA_sim hf hg h⟩
  | pick x p q =>
    simp only [purA] at h
    split at h
    · rename_i hx
      have hx' := evA_sim hf hg hx
      refine ⟨_, ?_, evA_sim hf hg h⟩
      simp only [execOp]
      generalize a.eval x = u at hx'
      cases hx'
      simp [asBool]
    · rename_i hx
      have hx' := evA_sim hf hg hx
      refine ⟨_, ?_, evA_sim hf hg h⟩
      simp only [execOp]
      generalize a.eval x = u at hx'
      cases hx'
      simp [asBool]
    · cases h
  | nilCheck x =>
    simp only [purA] at h
    split at h
    · rename_i hx
      cases h
      have hx' := evA_sim hf hg hx
      refine ⟨a.eval x, ?_, hx'⟩
      simp only [execOp]
      generalize a.eval x = u at hx'
      cases hx'
      rfl
    · cases h
  | binOp op t x y yt =>
    simp only [purA] at h
    split at h
    · rename_i hx hy
      obtain ⟨h1, h2⟩ := bin_sim (evA_sim hf hg hx) (evA_sim hf hg hy) h w
      exact ⟨v, by simp only [execOp]; exact run_v h1, h2⟩
    · cases h
  | unOp op t x =>
    simp only [purA] at h
    split at h
    · rename_i hx
      have hx' := evA_sim hf hg hx
      unfold unA at h
      simp only [execOp]
      generalize a.eval x = u at hx'
      split at h
      · cases h; cases hx'; exact ⟨_, run_v rfl, .int _ _⟩
      · cases h; cases hx'; exact ⟨_, run_v rfl, .bool _⟩
      · cases hx'
        rename_i k m
        refine ⟨v, run_v ?_, intBin_vr h⟩
        simp only [intBinA, Option.some.injEq] at h
        subst h
        rfl
      · cases h
    · cases h
  | makeInterface t x =>
    simp only [purA] at h
    split at h
    · cases h
    · rename_i hd hx hu
      cases h
      refine ⟨.iface t (a.eval x), ?_, .iface t (evA_sim hf hg hx)⟩
      simp only [execOp]
      refine run_v ?_
      simp only [Instr.makeInterface, Sem.run_bind, run_under hu, Result.andThen_ok]
      rfl
    · cases h
  | makeFunc fn first captured =>
    simp only [purA] at h
    split at h
    · rename_i hx hy
      cases h
      have h1 := VR.func' fn (evL_arr hf hg hx) (evL_arr hf hg hy)
      exact ⟨_, by simp only [execOp]; exact run_v rfl, h1⟩
    · cases h
  | fieldAddr s x f =>
    simp only [purA] at h
    split at h
    · rename_i b o off t hx hfld
      split at h
      · cases h
      · rename_i hs
        cases h
        have hx' := evA_sim hf hg hx
        simp only [execOp]
        generalize a.eval x = u at hx'
        cases hx'
        rename_i en he
        refine ⟨.pointer (some ⟨en.blk, en.base + (o + off), none⟩), run_v ?_, .ptr he⟩
        unfold fieldA at hfld
        split at hfld
        · rename_i fs hu
          split at hfld
          · rename_i fd hfd
            cases hfld
            cases hsz : sizeA c.P fd.type with
            | none => simp [hsz] at hs
            | some m =>
              simp only [hsz, Option.getD_some] at hs
              simp only [Instr.fieldAt, Sem.run_bind, run_under hu, Result.andThen_ok, hfd, Instr.sureAddr, Sem.run_pure, fieldPlace, run_size hsz, if_neg hs, addr_add, Nat.add_assoc]
          · cases hfld
        · cases hfld
    · cases h
  | field t x f =>
    simp only [purA] at h
    split at h
    · rename_i cs off u hx hfld
      have hx' := evA_sim hf hg hx
      simp only [execOp]
      generalize a.eval x = z at hx'
      cases hx'
      rename_i ds h1 h3
      obtain ⟨v', hv, hr⟩ := part_sim (LR.of_arr h1 h3) h w
      refine ⟨v', run_v ?_, hr⟩
      unfold fieldA at hfld
      split at hfld
      · rename_i fs hu
        split at hfld
        · rename_i fd hfd
          cases hfld
          simp only [Instr.field, Sem.run_bind, run_under hu, Result.andThen_ok, hfd, asAgg, Sem.run_pure, hv]
        · cases hfld
      · cases hfld
    · cases h
  | indexAddr t x i =>
    simp only [purA] at h
    split at h
    · rename_i hx hi
      obtain ⟨v', hv, hr⟩ := indexAddr_sim (evA_sim hf hg hx) (evA_sim hf hg hi) h w
      exact ⟨v', by simp only [execOp]; exact run_v hv, hr⟩
    · cases h
  | index t x i =>
    simp only [purA] at h
    split at h
    · rename_i hx hi
      obtain ⟨v', hv, hr⟩ := index_sim (evA_sim hf hg hx) (evA_sim hf hg hi) h w
      exact ⟨v', by simp only [execOp]; exact run_v hv, hr⟩
    · cases h
  | extract x i =>
    simp only [purA] at h
    split at h
    · rename_i vs hx
      have hx' := evA_sim hf hg hx
      simp only [execOp]
      generalize a.eval x = z at hx'
      cases hx'
      rename_i ds h1 h3
      obtain ⟨v', h2, h4⟩ := (LR.of_arr h1 h3).getA h
      exact ⟨v', run_v (by simp [Instr.extract, h2]), h4⟩
    · cases h
  | build t parts =>
    simp only [purA] at h
    split at h
    · rename_i ps hp
      obtain ⟨v', hv, hr⟩ := build_sim (evParts_sim hf hg hp) h w
      refine ⟨v', ?_, hr⟩
      simp only [execOp]
      refine run_v ?_
      have e : (List.map (fun x => match x with | (i, x) => (i, a.eval x)) parts.toList).toArray = parts.map (fun x => match x with | (i, x) => (i, a.eval x)) := by
        apply Array.ext'; simp
      rw [e] at hv
      exact hv
    · cases h
  | call cl =>
    obtain ⟨callee, args, argTypes⟩ := cl
    cases callee with
    | value f => simp [purA] at h
    | invoke r m => simp [purA] at h
    | builtin b =>
      cases b
      case len =>
        simp only [purA] at h
        split at h
        · rename_i x t hx ht
          obtain ⟨x', h1, h2⟩ := arr_one (evL_arr hf hg hx)
          obtain ⟨h3, h4⟩ := len_sim (ts := argTypes) (ty := ty) ht h2 h w
          refine ⟨v, ?_, h4⟩
          simp only [execOp, resolve, Sem.run_bind, Sem.run_pure, Result.andThen_ok, invoke, builtin, h1]
          simp only [h3, Result.andThen_ok]
        · cases h
      case min =>
        simp only [purA] at h
        split at h
        · rename_i x l hx
          obtain ⟨x', zs, h1, h2, h3⟩ := (evL_arr hf hg hx).cases
          have hb : (Builtin.min_ argTypes ty (args.map a.eval)).run c.P w = (zs.foldlM Builtin.min2 x').run c.P w := by
            simp only [Builtin.min_, h1]
          rcases foldMin_sim (P := c.P) w l zs x x' v h2 h3 h with ⟨h4, h5⟩ | ⟨rfl, rfl⟩
          · refine ⟨v, ?_, h5⟩
            simp only [execOp, resolve, Sem.run_bind, Sem.run_pure, Result.andThen_ok, invoke, builtin, hb, h4]
          · have : zs = [] := by have := h3.1; cases zs with | nil => rfl | cons _ _ => simp at this
            subst this
            refine ⟨x', ?_, h2⟩
            simp only [execOp, resolve, Sem.run_bind, Sem.run_pure, Result.andThen_ok, invoke, builtin, hb, List.foldlM_nil]
        · cases h
      case max =>
        simp only [purA] at h
        split at h
        · rename_i x l hx
          obtain ⟨x', zs, h1, h2, h3⟩ := (evL_arr hf hg hx).cases
          have hb : (Builtin.max_ argTypes ty (args.map a.eval)).run c.P w = (zs.foldlM Builtin.max2 x').run c.P w := by
            simp only [Builtin.max_, h1]
          rcases foldMax_sim (P := c.P) w l zs x x' v h2 h3 h with ⟨h4, h5⟩ | ⟨rfl, rfl⟩
          · refine ⟨v, ?_, h5⟩
            simp only [execOp, resolve, Sem.run_bind, Sem.run_pure, Result.andThen_ok, invoke, builtin, hb, h4]
          · have : zs = [] := by have := h3.1; cases zs with | nil => rfl | cons _ _ => simp at this
            subst this
            refine ⟨x', ?_, h2⟩
            simp only [execOp, resolve, Sem.run_bind, Sem.run_pure, Result.andThen_ok, invoke, builtin, hb, List.foldlM_nil]
        · cases h
      all_goals simp [purA] at h
  | _ => simp [purA] at h
end
end Go.Abs
/- Abs7: new blocks, blocks that turn, loads and stores. Conditions: none. -/
namespace Go.Abs
theorem list_getElem?_append_len {α : Type} (h : List α) (x : α) (id : Nat) {y : α} (hy : (h ++ [x])[id]? = some y) : (id < h.length ∧ h[id]? = some y) ∨ (id = h.length ∧ y = x) := by
  rw [List.getElem?_append] at hy
  split at hy
  · exact .inl ⟨by assumption, hy⟩
  · rename_i hn
    have : id - h.length = 0 := by
      rcases Nat.eq_zero_or_pos (id - h.length) with h0 | h0
      · exact h0
      · rw [List.getElem?_eq_none (by simp; omega)] at hy; cases hy
    rw [this] at hy
    simp at hy
    exact .inr ⟨by omega, hy.symm⟩
def Env.put (E : Env) (n : Nat) (e : Ent) : Env := fun id => if id = n then some e else E id
theorem Env.put_le {E : Env} {n : Nat} (e : Ent) (h : E n = none) : E.le (E.put n e) := by
  intro id x hx
  unfold Env.put
  split
  · rename_i he; subst he; rw [h] at hx; cases hx
  · exact hx
section
variable {G : Nat → Option Nat} {B : Nat} {E : Env} {h : AHeap} {w w' : World}
/-- A new block. -/
theorem post_push (s : Sim G B E h w) (hfree : E h.length = none) {o : AObj} {ob : Obj} {e : Ent} (he : e.blk = w.heap.size) (hw : w'.heap = w.heap.push ob)
    (hos : w'.os = w.os) (ht : w'.tape = w.tape) (hout : w'.output = w.output) (hor : OR (E.put h.length e) w' e o) :
    Post G B E (E.put h.length e) h (h ++ [some o]) w w' := by
  have hle := Env.put_le e hfree
  have old : ∀ x, x < w.heap.size → w'.heap[x]? = w.heap[x]? := fun x hx => by rw [hw, Array.getElem?_push, if_neg (by omega)]
  have hget : ∀ id x, (E.put h.length e) id = some x → id ≠ h.length → E id = some x := fun id x hx hn => by simpa [Env.put, hn] using hx
  have hlast : ∀ x, (E.put h.length e) h.length = some x → x = e := fun x hx => by simp [Env.put] at hx; exact hx.symm
  refine ⟨hle, by simp, fun id hn => ?_, ⟨?_, ?_, ?_, ?_, ?_⟩, hos, ht, hout, by rw [hw]; simp, fun x hx _ => old x hx, ?_, fun id x h1 h2 => ?_⟩
  · have : id = h.length := by
      by_cases hid : id = h.length
      · exact hid
      · exact absurd (by simp [Env.put, hid]) hn
    subst this
    simp
  · intro id o' e' h1 h2
    rcases list_getElem?_append_len h _ id h1 with ⟨hlt, h3⟩ | ⟨rfl, h3⟩
    · have h4 := hget id e' h2 (by omega)
      have h5 := s.obj id o' e' h3 h4
      exact h5.mono hle (old _ h5.lt)
    · cases h3; rw [hlast e' h2]; exact hor
  · intro id o' e' h1 h2 h3
    rcases list_getElem?_append_len h _ id h1 with ⟨hlt, h4⟩ | ⟨rfl, h4⟩
    · exact s.low id o' e' h4 (hget id e' h2 (by omega)) h3
    · rw [hlast e' h2, he]; exact s.base
  · intro i j oi oj ei ej hij h1 h2 h3 h4 h5
    rcases list_getElem?_append_len h _ i h1 with ⟨hlt, h6⟩ | ⟨rfl, h6⟩
    · have h7 := hget i ei h3 (by omega)
      rcases list_getElem?_append_len h _ j h2 with ⟨hlt', h8⟩ | ⟨rfl, h8⟩
      · exact s.apart i j oi oj ei ej hij h6 h8 h7 (hget j ej h4 (by omega)) h5
      · have := (s.obj i oi ei h6 h7).lt
        rw [hlast ej h4, he]; omega
    · rcases list_getElem?_append_len h _ j h2 with ⟨hlt', h8⟩ | ⟨rfl, h8⟩
      · have := (s.obj j oj ej h8 (hget j ej h4 (by omega))).lt
        rw [hlast ei h3, he]; omega
      · exact absurd rfl hij
  · rw [hw]; have := s.base; simp; omega
  · intro g id hg
    obtain ⟨x, h1, h2⟩ := s.glob g id hg
    exact ⟨x, hle _ _ h1, h2⟩
  · rintro x ⟨id, o', e', h1, h2, h3, h4⟩
    rcases list_getElem?_append_len h _ id h1 with ⟨hlt, h5⟩ | ⟨rfl, h5⟩
    · exact .inl ⟨id, o', e', h5, h2, hget id e' h3 (by omega), h4⟩
    · rw [hlast e' h3, he] at h4; exact .inr (by omega)
  · by_cases hid : id = h.length
    · subst hid; rw [hlast x h1, he]; exact .inr (Nat.le_refl _)
    · rw [hget id x h1 hid] at h2; cases h2
/-- A block that turns. -/
theorem post_set (s : Sim G B E h w) {b : Nat} {o o' : AObj} {e : Ent} (hb : h[b]? = some (some o)) (he : E b = some e) (hwr : wrO o = true)
    (hsz : w'.heap.size = w.heap.size) (hoth : ∀ x, x ≠ e.blk → w'.heap[x]? = w.heap[x]?) (hos : w'.os = w.os) (ht : w'.tape = w.tape) (hout : w'.output = w.output)
    (hor : OR E w' e o') (hwr' : wrO o' = true) : Post G B E E h (h.set b (some o')) w w' := by
  have hlt : b < h.length := by
    rcases Nat.lt_or_ge b h.length with h1 | h1
    · exact h1
    · rw [List.getElem?_eq_none h1] at hb; cases hb
  have hget : ∀ id x, (h.set b (some o'))[id]? = some (some x) → (id = b ∧ x = o') ∨ (id ≠ b ∧ h[id]? = some (some x)) := by
    intro id x hx
    rw [List.getElem?_set] at hx
    by_cases hid : b = id
    · subst hid; rw [if_pos rfl, if_pos hlt] at hx; cases hx; exact .inl ⟨rfl, rfl⟩
    · rw [if_neg hid] at hx; exact .inr ⟨fun e => hid e.symm, hx⟩
  refine ⟨Env.le.refl E, by simp, fun _ hn => absurd rfl hn, ⟨?_, ?_, ?_, by rw [hsz]; exact s.base, s.glob⟩, hos, ht, hout, by omega, fun x _ hx => ?_, ?_, fun id e h1 h2 => by rw [h2] at h1; cases h1⟩
  · intro id x e' h1 h2
    rcases hget id x h1 with ⟨rfl, rfl⟩ | ⟨hne, h3⟩
    · rw [he] at h2; cases h2; exact hor
    · exact (s.obj id x e' h3 h2).mono (Env.le.refl E) (hoth _ (fun hh => s.apart b id o x e e' (fun hh => hne hh.symm) hb h3 he h2 hwr hh.symm))
  · intro id x e' h1 h2 h3
    rcases hget id x h1 with ⟨rfl, rfl⟩ | ⟨hne, h4⟩
    · exact s.low id o e' hb h2 hwr
    · exact s.low id x e' h4 h2 h3
  · intro i j oi oj ei ej hij h1 h2 h3 h4 h5
    rcases hget i oi h1 with ⟨rfl, rfl⟩ | ⟨hne, h6⟩
    · rcases hget j oj h2 with ⟨rfl, rfl⟩ | ⟨hne', h7⟩
      · exact absurd rfl hij
      · exact s.apart i j o oj ei ej hij hb h7 h3 h4 hwr
    · rcases hget j oj h2 with ⟨rfl, rfl⟩ | ⟨hne', h7⟩
      · exact s.apart i j oi o ei ej hij h6 hb h3 h4 h5
      · exact s.apart i j oi oj ei ej hij h6 h7 h3 h4 h5
  · by_cases hxe : x = e.blk
    · exact absurd ⟨b, o, e, hb, hwr, he, hxe.symm⟩ hx
    · exact hoth x hxe
  · rintro x ⟨id, ob, e', h1, h2, h3, h4⟩
    rcases hget id ob h1 with ⟨rfl, rfl⟩ | ⟨hne, h5⟩
    · exact .inl ⟨id, o, e', hb, hwr, h3, h4⟩
    · exact .inl ⟨id, ob, e', h5, h2, h3, h4⟩
/-- A block that is taken out of use. -/
theorem sim_kill (s : Sim G B E h w) (b : Nat) : Sim G B E (h.set b none) w := by
  have hget : ∀ (id : Nat) x, (h.set b none)[id]? = some (some x) → h[id]? = some (some x) := by
    intro id x hx
    rw [List.getElem?_set] at hx
    by_cases hid : b = id
    · subst hid
      rw [if_pos rfl] at hx
      split at hx <;> cases hx
    · rwa [if_neg hid] at hx
  exact ⟨fun id o e h1 h2 => s.obj id o e (hget id o h1) h2, fun id o e h1 => s.low id o e (hget id o h1), fun i j oi oj ei ej hij h1 h2 => s.apart i j oi oj ei ej hij (hget i oi h1) (hget j oj h2), s.base, s.glob⟩
theorem post_kill (s : Sim G B E h w) (b : Nat) : Post G B E E h (h.set b none) w w := by
  refine ⟨Env.le.refl E, by simp, fun _ hn => absurd rfl hn, sim_kill s b, rfl, rfl, rfl, Nat.le_refl _, fun _ _ _ => rfl, ?_, fun id e h1 h2 => by rw [h2] at h1; cases h1⟩
  rintro x ⟨id, o, e, h1, h2⟩
  refine .inl ⟨id, o, e, ?_, h2⟩
  rw [List.getElem?_set] at h1
  by_cases hid : b = id
  · subst hid
    rw [if_pos rfl] at h1
    split at h1 <;> cases h1
  · rwa [if_neg hid] at h1
/-- A block that goes over into a new one, at its own place. -/
theorem post_move (s : Sim G B E h w) (hfree : E h.length = none) {b : Nat} {o o' : AObj} {e e' : Ent} (hb : h[b]? = some (some o)) (he : E b = some e) (hwr : wrO o = true) (he' : e'.blk = e.blk)
    (hsz : w'.heap.size = w.heap.size) (hoth : ∀ x, x ≠ e.blk → w'.heap[x]? = w.heap[x]?) (hos : w'.os = w.os) (ht : w'.tape = w.tape) (hout : w'.output = w.output)
    (hor : OR (E.put h.length e') w' e' o') (hwr' : wrO o' = true) : Post G B E (E.put h.length e') h (h.set b none ++ [some o']) w w' := by
  have hlt : b < h.length := by
    rcases Nat.lt_or_ge b h.length with h1 | h1
    · exact h1
    · rw [List.getElem?_eq_none h1] at hb; cases hb
  have hle := Env.put_le e' hfree
  have hlast : ∀ x, (E.put h.length e') h.length = some x → x = e' := fun x hx => by simp [Env.put] at hx; exact hx.symm
  have hget : ∀ id x y, (h.set b none ++ [some o'])[id]? = some (some x) → (E.put h.length e') id = some y → (id = h.length ∧ x = o' ∧ y = e') ∨ (id ≠ b ∧ id ≠ h.length ∧ h[id]? = some (some x) ∧ E id = some y) := by
    intro id x y hx hy
    rcases list_getElem?_append_len _ _ id hx with ⟨h1, h2⟩ | ⟨h1, h2⟩
    · rw [List.length_set] at h1
      rw [List.getElem?_set] at h2
      by_cases hid : b = id
      · subst hid; rw [if_pos rfl, if_pos hlt] at h2; cases h2
      · rw [if_neg hid] at h2
        exact .inr ⟨fun e => hid e.symm, by omega, h2, by simpa [Env.put, show id ≠ h.length by omega] using hy⟩
    · rw [List.length_set] at h1
      subst h1
      cases h2
      exact .inl ⟨rfl, rfl, hlast y hy⟩
  refine ⟨hle, by simp, fun id hn => ?_, ⟨?_, ?_, ?_, by rw [hsz]; exact s.base, ?_⟩, hos, ht, hout, by omega, fun x _ hx => ?_, ?_, fun id x h1 h2 => ?_⟩
  · have : id = h.length := by
      by_cases hid : id = h.length
      · exact hid
      · exact absurd (by simp [Env.put, hid]) hn
    subst this
    simp
  · intro id x y h1 h2
    rcases hget id x y h1 h2 with ⟨rfl, rfl, rfl⟩ | ⟨h3, h4, h5, h6⟩
    · exact hor
    · exact (s.obj id x y h5 h6).mono hle (hoth _ (fun hh => s.apart b id o x e y (fun hh => h3 hh.symm) hb h5 he h6 hwr hh.symm))
  · intro id x y h1 h2 h3
    rcases hget id x y h1 h2 with ⟨rfl, rfl, rfl⟩ | ⟨h4, h5, h6, h7⟩
    · rw [he']; exact s.low b o e hb he hwr
    · exact s.low id x y h6 h7 h3
  · intro i j oi oj ei ej hij h1 h2 h3 h4 h5
    rcases hget i oi ei h1 h3 with ⟨rfl, rfl, rfl⟩ | ⟨a1, a2, a3, a4⟩
    · rcases hget j oj ej h2 h4 with ⟨rfl, rfl, rfl⟩ | ⟨b1, b2, b3, b4⟩
      · exact absurd rfl hij
      · rw [he']; exact s.apart b j o oj e ej (fun hh => b1 hh.symm) hb b3 he b4 hwr
    · rcases hget j oj ej h2 h4 with ⟨rfl, rfl, rfl⟩ | ⟨b1, b2, b3, b4⟩
      · rw [he']; exact fun hh => s.apart b i o oi e ei (fun hh => a1 hh.symm) hb a3 he a4 hwr hh.symm
      · exact s.apart i j oi oj ei ej hij a3 b3 a4 b4 h5
  · intro g id hg
    obtain ⟨x, h1, h2⟩ := s.glob g id hg
    exact ⟨x, hle _ _ h1, h2⟩
  · by_cases hxe : x = e.blk
    · exact absurd ⟨b, o, e, hb, hwr, he, hxe.symm⟩ hx
    · exact hoth x hxe
  · rintro x ⟨id, ob, y, h1, h2, h3, h4⟩
    rcases hget id ob y h1 h3 with ⟨rfl, rfl, rfl⟩ | ⟨a1, a2, a3, a4⟩
    · exact .inl ⟨b, o, e, hb, hwr, he, by rw [← he']; exact h4⟩
    · exact .inl ⟨id, ob, y, a3, h2, a4, h4⟩
  · by_cases hid : id = h.length
    · subst hid; rw [hlast x h1, he']; exact .inl ⟨b, o, e, hb, hwr, he, rfl⟩
    · have : E id = some x := by simpa [Env.put, hid] using h1
      rw [this] at h2; cases h2
end
/-- Cells of a block, as the model's loads see them. -/
theorem cells_at {E : Env} {w : World} {e : Ent} {k : Blk} (hor : OR E w e (.cells k)) {o n : Nat} {l : List Value} (h : takeA k.cells o n = some l) :
    ∃ l', LR E l l' ∧ l'.length = n ∧ l.length = n ∧ ∀ (j : Nat) v, l'[j]? = some v → w.cell? ⟨e.blk, e.base + o + j, none⟩ = some v := by
  obtain ⟨c, el, fz, h1, h2, h3, h4, h5⟩ := hor
  unfold takeA at h
  split at h
  · rename_i hle
    cases h
    have hin : ∀ j, j < n → ∃ v v', k.cells[o + j]? = some v ∧ c[e.base + (o + j)]? = some v' ∧ VR E v v' := fun j hj => by
      have : o + j < k.cells.length := by omega
      obtain ⟨v', p, q⟩ := h4 (o + j) _ (List.getElem?_eq_getElem this)
      exact ⟨_, v', List.getElem?_eq_getElem this, p, q⟩
    have hsz : n = 0 ∨ e.base + o + n ≤ c.size := by
      by_cases hn : n = 0
      · exact .inl hn
      · obtain ⟨v, v', _, p, _⟩ := hin (n - 1) (by omega)
        have := (Array.getElem?_eq_some_iff.1 p).1
        exact .inr (by omega)
    have hlen : ((c.toList.drop (e.base + o)).take n).length = n := by
      rcases hsz with h0 | h0
      · subst h0; simp
      · simp; omega
    refine ⟨(c.toList.drop (e.base + o)).take n, ⟨?_, ?_⟩, hlen, by simp; omega, ?_⟩
    · rw [hlen]; simp; omega
    · intro j v hv
      rw [List.getElem?_take] at hv ⊢
      split at hv
      · rename_i hj
        rw [if_pos hj]
        rw [List.getElem?_drop] at hv ⊢
        obtain ⟨u, u', p, q, r⟩ := hin j hj
        rw [p] at hv; cases hv
        exact ⟨u', by rw [Nat.add_assoc]; simpa using q, r⟩
      · cases hv
    · intro j v hv
      rw [List.getElem?_take] at hv
      split at hv
      · rw [List.getElem?_drop] at hv
        simp only [World.cell?, h1]
        simpa using hv
      · cases hv
  · cases h
theorem blkA_some {h : AHeap} {b : Nat} {k : Blk} (hb : blkA h b = some k) : h[b]? = some (some (.cells k)) := by
  unfold blkA at hb
  split at hb
  · rename_i hh; cases hb; exact hh
  · cases hb
section
variable {G : Nat → Option Nat} {B : Nat} {E : Env} {h : AHeap} {w : World} {P : Program}
theorem load_sim (s : Sim G B E h w) {t : TypeId} {x x' v : Value} (hx : VR E x x') (hl : loadA P h t x = some v) :
    ∃ v', (Instr.loadAt t x').run P w = .ok v' w ∧ VR E v v' := by
  unfold loadA at hl
  split at hl
  · rename_i b o
    cases hx
    rename_i e he
    split at hl
    · rename_i k n hb ha hs
      simp only [Option.map_eq_some_iff] at hl
      obtain ⟨l, h1, rfl⟩ := hl
      obtain ⟨l', h2, h3, _, h4⟩ := cells_at (s.obj b _ e (blkA_some hb) he) h1
      refine ⟨.agg l'.toArray, ?_, VR.agg' h2⟩
      have hr := run_loadCells_list (P := P) w ⟨e.blk, e.base + o, none⟩ l' (fun j v hv => by rw [addr_add]; exact h4 j v hv)
      rw [h3] at hr
      simp only [Instr.loadAt, Instr.sureAddr, Sem.run_bind, Sem.run_pure, Result.andThen_ok, loadVar, run_agg ha, if_true, run_size hs, hr]
    · rename_i k n hb ha hs
      obtain ⟨c, el, fz, h1, h2, h3, h4, h5⟩ := s.obj b _ e (blkA_some hb) he
      obtain ⟨v', p, q⟩ := h4 o v hl
      refine ⟨v', ?_, q⟩
      have hc : w.cell? ⟨e.blk, e.base + o, none⟩ = some v' := by simp only [World.cell?, h1]; simpa using p
      simp only [Instr.loadAt, Instr.sureAddr, Sem.run_bind, Sem.run_pure, Result.andThen_ok, loadVar, run_agg ha, Bool.false_eq_true, if_false, run_load, hc]
    · cases hl
  · cases hl
end
end Go.Abs
/- Abs8: stores, new variables, slices that are made and cut, conversions. Conditions: none. -/
namespace Go.Abs
theorem putCells_length : ∀ (vs : List Value) (l : List Value) (o : Nat), (putCells l o vs).length = l.length
  | [], l, o => rfl
  | v :: vs, l, o => by simp only [putCells]; rw [putCells_length vs]; simp
def Shift (E : Env) (base : Nat) (l l' : List Value) : Prop := ∀ (j : Nat) v, l[j]? = some v → ∃ v', l'[base + j]? = some v' ∧ VR E v v'
theorem Shift.put {E : Env} {base : Nat} : ∀ (vs vs' l l' : List Value) (o : Nat), Shift E base l l' → LR E vs vs' → o + vs.length ≤ l.length → Shift E base (putCells l o vs) (putCells l' (base + o) vs')
  | [], vs', l, l', o, h, hv, _ => by
    have : vs' = [] := by have := hv.1; cases vs' with | nil => rfl | cons _ _ => simp at this
    subst this; exact h
  | v :: vs, vs', l, l', o, h, hv, hle => by
    obtain ⟨v', vs', rfl, h1, h2⟩ := hv.cases
    simp only [putCells]
    simp only [List.length_cons] at hle
    rw [Nat.add_assoc]
    refine Shift.put vs vs' _ _ (o + 1) ?_ h2 (by simp; omega)
    intro j u hu
    rw [List.getElem?_set] at hu
    by_cases hj : o = j
    · subst hj
      rw [if_pos rfl] at hu
      split at hu
      · cases hu
        obtain ⟨x, hx, _⟩ := h o _ (List.getElem?_eq_getElem (by omega))
        have hlt : base + o < l'.length := (List.getElem?_eq_some_iff.1 hx).1
        exact ⟨v', by rw [List.getElem?_set, if_pos rfl, if_pos hlt], h1⟩
      · cases hu
    · rw [if_neg hj] at hu
      obtain ⟨x, hx, hr⟩ := h j u hu
      exact ⟨x, by rw [List.getElem?_set, if_neg (by omega)]; exact hx, hr⟩
theorem one_eq (v : Value) : v.oneCell' = oneCellA v := by cases v <;> rfl
theorem run_stores (P : Program) (b : Nat) : ∀ (vs : List Value) (o i : Nat) (w : World) (c : Array Value) (el : TypeId) (fz : Nat × Nat), w.heap[b]? = some (.cells c el fz) → (vs = [] ∨ o + i + vs.length ≤ c.size) →
    (∀ j, j < c.size → ¬ (fz.1 ≤ j ∧ j < fz.2)) → vs.all oneCellA = true →
    ∃ w', (storeCells ⟨b, o, none⟩ vs i).run P w = .ok () w' ∧ (∃ d : Array Value, w'.heap[b]? = some (.cells d el fz) ∧ d.toList = putCells c.toList (o + i) vs) ∧ w'.heap.size = w.heap.size ∧
      (∀ x, x ≠ b → w'.heap[x]? = w.heap[x]?) ∧ w'.os = w.os ∧ w'.tape = w.tape ∧ w'.output = w.output
  | [], o, i, w, c, el, fz, hb, _, _, _ => ⟨w, rfl, ⟨c, hb, rfl⟩, rfl, fun _ _ => rfl, rfl, rfl, rfl⟩
  | v :: vs, o, i, w, c, el, fz, hb, hle, hfz, h1 => by
    have hle' : o + i + (vs.length + 1) ≤ c.size := by rcases hle with h | h; · cases h
                                                       · simpa using h
    simp only [List.all_cons, Bool.and_eq_true] at h1
    have hlt : o + i < c.size := by omega
    have hcell : w.cell? ⟨b, o + i, none⟩ = some c[o + i] := by simp [World.cell?, hb, hlt]
    have hfr : w.frozen? ⟨b, o + i, none⟩ = false := by
      have := hfz (o + i) hlt
      simp only [World.frozen?, hb, Bool.and_eq_false_iff, decide_eq_false_iff_not]
      omega
    have hheap : (w.setCell ⟨b, o + i, none⟩ v).heap[b]? = some (.cells (c.setIfInBounds (o + i) v) el fz) := by
      simp [World.setCell, Array.getElem?_modify, hb]
    have hst : (store ⟨b, o + i, none⟩ v).run P w = .ok () (w.setCell ⟨b, o + i, none⟩ v) := by
      rw [run_store P w _ v _ (by rw [one_eq]; exact h1.1)]
      simp only [hcell, hfr]
      rfl
    obtain ⟨w', h2, ⟨d, h3, h4⟩, h5, h6, h7, h8, h9⟩ := run_stores P b vs o (i + 1) _ _ el fz hheap (.inr (by simp; omega)) (by simpa using hfz) h1.2
    refine ⟨w', ?_, ⟨d, h3, by rw [h4]; simp [putCells, Nat.add_assoc]⟩, by rw [h5]; simp, fun x hx => ?_, h7, h8, h9⟩
    · simp only [storeCells, Sem.run_bind, addr_add, hst, Result.andThen_ok, h2]
    · rw [h6 x hx]
      simp only [World.setCell, Array.getElem?_modify]
      rw [if_neg (fun hh => hx hh.symm)]
section
variable {G : Nat → Option Nat} {B : Nat} {E : Env} {h h' : AHeap} {w : World} {P : Program}
theorem LR.allOne {xs ys : List Value} (hl : LR E xs ys) : ys.all oneCellA = xs.all oneCellA := by
  rw [Bool.eq_iff_iff, List.all_eq_true, List.all_eq_true]
  constructor
  · intro h1 x hx
    obtain ⟨i, hi⟩ := List.getElem?_of_mem hx
    obtain ⟨y, h2, h3⟩ := hl.2 i x hi
    rw [← h3.one]; exact h1 y (List.mem_of_getElem? h2)
  · intro h1 y hy
    obtain ⟨i, hi⟩ := List.getElem?_of_mem hy
    have hlt : i < xs.length := by rw [hl.1]; exact (List.getElem?_eq_some_iff.1 hi).1
    obtain ⟨y', h2, h3⟩ := hl.2 i _ (List.getElem?_eq_getElem hlt)
    rw [hi] at h2; cases h2
    rw [h3.one]; exact h1 _ (List.getElem_mem hlt)
theorem write_sim (s : Sim G B E h w) {b o : Nat} {e : Ent} {vs vs' : List Value} (he : E b = some e) (hv : LR E vs vs') (hw : writeA h b o vs = some h') :
    ∃ w', (storeCells ⟨e.blk, e.base + o, none⟩ vs').run P w = .ok () w' ∧ Post G B E E h h' w w' := by
  unfold writeA at hw
  split at hw
  · rename_i k hb
    split at hw
    · rename_i hc
      obtain ⟨hro, hle, hone⟩ := hc
      cases hw
      have hbs := blkA_some hb
      obtain ⟨c, el, fz, h1, h2, h3, h4, h5⟩ := s.obj b _ e hbs he
      have hsh : Shift E e.base k.cells c.toList := fun j v hj => let ⟨v', p, q⟩ := h4 j v hj; ⟨v', by simpa using p, q⟩
      have hfit : vs' = [] ∨ e.base + o + 0 + vs'.length ≤ c.size := by
        by_cases hn : vs' = []
        · exact .inl hn
        · have hpos : 0 < vs.length := by rw [hv.1]; exact List.length_pos_iff.2 hn
          have hlt : o + vs.length - 1 < k.cells.length := by omega
          obtain ⟨v', p, _⟩ := h4 _ _ (List.getElem?_eq_getElem hlt)
          have := (Array.getElem?_eq_some_iff.1 p).1
          have := hv.1
          exact .inr (by omega)
      obtain ⟨w', r1, ⟨d, r2, r3⟩, r4, r5, r6, r7, r8⟩ := run_stores P e.blk vs' (e.base + o) 0 w c el fz h1 hfit (fzOld (h5 hro)) (by rw [hv.allOne]; exact hone)
      refine ⟨w', r1, post_set s hbs he (by simp [wrO, hro]) r4 r5 r6 r7 r8 ?_ (by simp [wrO, hro])⟩
      have hsz : d.size = c.size := by rw [← Array.length_toList, r3, putCells_length]; simp
      refine ⟨d, el, fz, r2, by rw [hsz]; exact h2, h3, fun j v hj => ?_, fun _ => by have := h5 hro; omega⟩
      obtain ⟨v', p, q⟩ := Shift.put vs vs' k.cells c.toList o hsh hv hle j v hj
      refine ⟨v', ?_, q⟩
      rw [← Array.getElem?_toList, r3]
      simpa using p
    · cases hw
  · cases hw
theorem store_sim (s : Sim G B E h w) {t : TypeId} {x x' v v' : Value} (hx : VR E x x') (hv : VR E v v') (hs : storeA P h t x v = some h') :
    ∃ w', (Instr.storeAt t x' v').run P w = .ok () w' ∧ Post G B E E h h' w w' := by
  unfold storeA at hs
  split at hs
  · rename_i b o
    split at hs
    · rename_i hsz
      cases hx
      rename_i e he
      obtain ⟨w', h1, h2⟩ := write_sim (P := P) s he hv.cells hs
      refine ⟨w', ?_, h2⟩
      simp only [Instr.storeAt, Instr.sureAddr, Sem.run_bind, Sem.run_pure, Result.andThen_ok, storeVar, run_size hsz]
      rw [if_neg (by rw [hv.csize]; simp)]
      exact h1
    · cases hs
  · cases hs
/-- A new row of cells. -/
theorem row_sim (s : Sim G B E h w) (hfree : E h.length = none) {cells : List Value} {esz : Nat} {c : Array Value} {el : TypeId} (hc : ∀ (j : Nat) v, cells[j]? = some v → ∃ v', c[j]? = some v' ∧ VR E v v') {d0 : World}
    (hd : d0.heap = w.heap) (hos : d0.os = w.os) (ht : d0.tape = w.tape) (hout : d0.output = w.output) :
    Post G B E (E.put h.length ⟨w.heap.size, 0, c.size, esz⟩) h (h ++ [some (.cells ⟨cells, esz, false⟩)]) w (d0.alloc (.cells c el)) := by
  have hle := Env.put_le ⟨w.heap.size, 0, c.size, esz⟩ hfree
  refine post_push (ob := .cells c el) s hfree rfl (by show d0.heap.push _ = _; rw [hd]) hos ht hout ?_
  refine ⟨c, el, (0, 0), by show (d0.heap.push _)[_]? = _; rw [hd]; simp, rfl, rfl, fun j v hj => ?_, fun _ => .inl rfl⟩
  obtain ⟨v', p, q⟩ := hc j v hj
  exact ⟨v', by simpa using p, q.mono hle⟩
theorem LR.to_arr {cells : List Value} {c : Array Value} (hl : LR E cells c.toList) : ∀ (j : Nat) v, cells[j]? = some v → ∃ v', c[j]? = some v' ∧ VR E v v' :=
  fun j v hj => let ⟨v', p, q⟩ := hl.2 j v hj; ⟨v', by simpa using p, q⟩
theorem run_newRow (w : World) (el : TypeId) (c : Array Value) : (newRow el c).run P w = .ok ⟨w.heap.size, 0, none⟩ (w.alloc (.cells c el)) := by
  simp only [newRow, Sem.run_bind, run_newObj, Result.andThen_ok, Sem.run_pure]; rfl
theorem repCells_get (z : List Value) (hz : 0 < z.length) : ∀ (n i : Nat), i < n * z.length → (repCells z n)[i]? = z[i % z.length]?
  | 0, i, h => by simp at h
  | n + 1, i, h => by
    simp only [repCells]
    rw [List.getElem?_append]
    split
    · rename_i hi; rw [Nat.mod_eq_of_lt hi]
    · rename_i hi
      have h1 : i - z.length < n * z.length := by rw [Nat.add_mul, Nat.one_mul] at h; omega
      rw [repCells_get z hz n _ h1, ← Nat.mod_eq_sub_mod (by omega)]
theorem repCells_length (z : List Value) : ∀ n, (repCells z n).length = n * z.length
  | 0 => by simp [repCells]
  | n + 1 => by simp [repCells, repCells_length z n, Nat.add_mul, Nat.add_comm]
/-- The model's row of zeros. -/
theorem zero_row (z : List Value) (zc : Array Value) (hzc : zc.toList = z) (hz : 0 < z.length) (N i : Nat) (hi : i < N) : ((Array.range N).map (zc[· % zc.size]!))[i]? = z[i % z.length]? := by
  have hs : zc.size = z.length := by rw [← hzc]; simp
  have hlt : i % zc.size < zc.size := Nat.mod_lt _ (by omega)
  simp only [Array.getElem?_map, Array.getElem?_range, hi, if_true, Option.map_some]
  rw [getElem!_pos zc (i % zc.size) hlt, ← hs, ← hzc]
  simp [hlt]
theorem zero_row_all (z : List Value) (zc : Array Value) (hzc : zc.toList = z) (hz : 0 < z.length) (n : Nat) : ((Array.range (n * z.length)).map (zc[· % zc.size]!)).toList = repCells z n := by
  apply List.ext_getElem?
  intro i
  by_cases hi : i < n * z.length
  · rw [Array.getElem?_toList, zero_row z zc hzc hz _ i hi, repCells_get z hz n i hi]
  · rw [List.getElem?_eq_none (by simp; omega), List.getElem?_eq_none (by rw [repCells_length]; omega)]
theorem plain_rep {z : List Value} (hz : z.all (plainV 3) = true) : ∀ n, (repCells z n).all (plainV 3) = true
  | 0 => rfl
  | n + 1 => by simp only [repCells, List.all_append, hz, plain_rep hz n, Bool.and_self]
end
end Go.Abs
/- Abs9: slices and strings: made, cut, converted, appended to, copied. Conditions: none. -/
namespace Go.Abs
section
variable {G : Nat → Option Nat} {B : Nat} {E : Env} {h h' : AHeap} {w : World} {P : Program}
def OpR (G : Nat → Option Nat) (B : Nat) (E : Env) (h h' : AHeap) (P : Program) (w : World) (v : Value) (m : Sem Value) : Prop :=
  ∃ E' v' w', m.run P w = .ok v' w' ∧ Post G B E E' h h' w w' ∧ VR E' v v'
theorem new_vr {e : Ent} (he : e.base = 0) : VR (E.put h.length e) (.pointer (some ⟨h.length, 0, none⟩)) (.pointer (some ⟨e.blk, 0, none⟩)) := by
  have := VR.ptr (E := E.put h.length e) (b := h.length) (o := 0) (e := e) (by simp [Env.put])
  rw [he] at this
  exact this
theorem alloc_sim (s : Sim G B E h w) (hfree : E h.length = none) {t : TypeId} {z : List Value} {esz : Nat} (hz : zeroA P t = some z) :
    OpR G B E h (newA h z esz).2 P w (.pointer (some ⟨h.length, 0, none⟩)) (Instr.alloc t true (.tuple #[])) := by
  obtain ⟨zv, h1, h2, h3⟩ := run_zero hz w
  have hp := row_sim (el := t) (esz := esz) s hfree (cells := z) (c := zv.cells) (LR.to_arr (by rw [h2]; exact LR.plain E 3 z h3)) (d0 := w) rfl rfl rfl rfl
  refine ⟨_, .pointer (some ⟨w.heap.size, 0, none⟩), _, ?_, hp, new_vr rfl⟩
  simp only [Instr.alloc, Sem.run_bind, h1, Result.andThen_ok, newVar, run_newRow, Sem.run_pure]
theorem box_sim (s : Sim G B E h w) (hfree : E h.length = none) {t : TypeId} {esz : Nat} {v v' : Value} (hv : VR E v v') :
    OpR G B E h (newA h v.cells.toList esz).2 P w (.pointer (some ⟨h.length, 0, none⟩)) (Instr.box t v') := by
  have hp := row_sim (el := t) (esz := esz) s hfree (cells := v.cells.toList) (c := v'.cells) (LR.to_arr hv.cells) (d0 := w) rfl rfl rfl rfl
  refine ⟨_, .pointer (some ⟨w.heap.size, 0, none⟩), _, ?_, hp, new_vr rfl⟩
  simp only [Instr.box, Sem.run_bind, Result.andThen_ok, newVar, run_newRow, Sem.run_pure]
theorem new_sl {w0 csz esz n cap : Nat} (h1 : n ≤ cap) (h2 : cap * esz ≤ csz) :
    VR (E.put h.length ⟨w0, 0, csz, esz⟩) (.slice (some ⟨h.length, 0, none⟩) n n) (.slice (some ⟨w0, 0, none⟩) n cap) :=
  VR.sl (E := E.put h.length ⟨w0, 0, csz, esz⟩) (e := ⟨w0, 0, csz, esz⟩) (by simp [Env.put]) h1 (fun _ => by simpa using h2) (fun _ => rfl)
theorem fill_size (place : Nat → Option (Nat × Nat)) : ∀ (ps : List (Nat × Value)) (cs rs : Array Value), Instr.fill place cs ps = some rs → rs.size = cs.size
  | [], cs, rs, h => by simp only [Instr.fill, Option.some.injEq] at h; rw [h]
  | (i, v) :: ps, cs, rs, h => by
    simp only [Instr.fill] at h
    cases hp : place i with
    | none => simp [hp] at h
    | some os =>
      obtain ⟨off, size⟩ := os
      simp only [hp] at h
      split at h
      · cases h
      · rw [fill_size place ps _ rs h]
        have key : ∀ (us : List (Value × Nat)) (c : Array Value), (us.foldl (fun cs (x : Value × Nat) => cs.setIfInBounds (off + x.2) x.1) c).size = c.size := by
          intro us
          induction us with
          | nil => intro c; rfl
          | cons u us ih => intro c; simp only [List.foldl_cons]; rw [ih]; simp
        have e : ∀ (xs c : Array Value), xs.zipIdx.foldl (fun cs (x : Value × Nat) => cs.setIfInBounds (off + x.2) x.1) c = xs.toList.zipIdx.foldl (fun cs (x : Value × Nat) => cs.setIfInBounds (off + x.2) x.1) c := by
          intro xs c; rw [← Array.foldl_toList, Array.toList_zipIdx]
        exact (congrArg Array.size (e v.cells cs)).trans (key _ _)
theorem buildSlice_sim (s : Sim G B E h w) (hfree : E h.length = none) {t : TypeId} {len : Nat} {ps qs : List (Nat × Value)} {v : Value} (hp : PR E ps qs) (hb : buildSliceA P t len ps h = some (v, h')) :
    OpR G B E h h' P w v (Instr.buildSlice t len qs.toArray) := by
  unfold buildSliceA at hb
  split at hb
  case h_2 => cases hb
  rename_i e hu
  split at hb
  case h_2 => cases hb
  rename_i size z hs hz
  split at hb
  case isFalse => cases hb
  rename_i hc
  obtain ⟨hc1, hc2, hc3⟩ := hc
  split at hb
  case h_2 => cases hb
  rename_i cells hf
  split at hb
  case isFalse => cases hb
  cases hb
  obtain ⟨zv, h1, h2, h3⟩ := run_zero hz w
  have hrow : ((Array.range (len * size)).map (zv.cells[· % zv.cells.size]!)).toList = repCells z len := by
    rw [← hc2]; exact zero_row_all z zv.cells h2 (by omega) len
  obtain ⟨ds, h4, h5⟩ := fill_sim _ ps qs _ _ cells hp (by rw [hrow]; exact LR.plain E 3 _ (plain_rep h3 len)) hf
  have hsz : ds.size = len * size := by rw [fill_size _ _ _ _ h4]; simp
  have hpost := row_sim (el := e) (esz := size) s hfree (cells := cells.toList) (c := ds) (LR.to_arr h5) (d0 := w) rfl rfl rfl rfl
  refine ⟨_, .slice (some ⟨w.heap.size, 0, none⟩) len len, _, ?_, hpost, new_sl (Nat.le_refl _) (by rw [hsz]; exact Nat.le_refl _)⟩
  simp only [Instr.buildSlice, Sem.run_bind, run_under hu, Result.andThen_ok, run_size hs]
  rw [if_neg (by omega)]
  have hE : len * size = 0 → ∀ f g : Nat → Value, (Array.range (len * size)).map f = (Array.range (len * size)).map g := by intro h0 f g; rw [h0]; simp
  split
  · rename_i h0
    simp only [Sem.run_bind, Sem.run_pure, Result.andThen_ok]
    rw [hE h0 _ (fun x => zv.cells[x % zv.cells.size]!), h4]
    simp only [Sem.run_bind, run_newRow, Result.andThen_ok, Sem.run_pure]
  · simp only [Sem.run_bind, h1, Sem.run_pure, Result.andThen_ok]
    rw [h4]
    simp only [Sem.run_bind, run_newRow, Result.andThen_ok, Sem.run_pure]
theorem makeSlice_sim (s : Sim G B E h w) (hfree : E h.length = none) {t : TypeId} {l m l' m' v : Value} (hl : VR E l l') (hm : VR E m m') (hb : makeSliceA P t l m h = some (v, h')) :
    OpR G B E h h' P w v (Instr.makeSlice t l' m') := by
  unfold makeSliceA at hb
  split at hb
  case h_2 => cases hb
  rename_i e k1 n k2 q hu
  split at hb
  case h_2 => cases hb
  rename_i size z by_ hs hz hby
  split at hb
  case isFalse => cases hb
  rename_i hc
  obtain ⟨c1, c2, c3, c4, c5, c6⟩ := hc
  cases hb; cases hl; cases hm
  obtain ⟨zv, h1, h2, h3⟩ := run_zero hz w
  simp only [bytesA, Option.map_eq_some_iff] at hby
  obtain ⟨info, hi, hb2⟩ := hby
  have hwq : IntKind.i64.wrap q = q := by unfold IntKind.wrap; simp only [IntKind.bits, IntKind.signed, Bool.true_and]; split <;> simp_all <;> omega
  have hwn : IntKind.i64.wrap n = n := by unfold IntKind.wrap; simp only [IntKind.bits, IntKind.signed, Bool.true_and]; split <;> simp_all <;> omega
  have hsz : ((Array.range (q.toNat * size)).map (zv.cells[· % zv.cells.size]!)).size = q.toNat * size := by simp
  have hpost := row_sim (el := e) (esz := size) s hfree (cells := repCells z n.toNat) (c := (Array.range (q.toNat * size)).map (zv.cells[· % zv.cells.size]!)) (fun j u hj => by
    have hj' : j < n.toNat * z.length := by
      rcases Nat.lt_or_ge j (n.toNat * z.length) with h' | h'
      · exact h'
      · rw [List.getElem?_eq_none (by rw [repCells_length]; exact h')] at hj; cases hj
    have hle : n.toNat * z.length ≤ q.toNat * size := by rw [c5]; exact Nat.mul_le_mul_right _ (by omega)
    rw [repCells_get z (by omega) _ _ hj'] at hj
    refine ⟨u, by rw [zero_row z zv.cells h2 (by omega) _ j (by omega)]; exact hj, VR.plain E 3 u (List.all_eq_true.1 h3 _ (List.mem_of_getElem? hj))⟩) (d0 := w) rfl rfl rfl rfl
  refine ⟨_, .slice (some ⟨w.heap.size, 0, none⟩) n.toNat q.toNat, _, ?_, hpost, new_sl (by omega) (by rw [hsz]; exact Nat.le_refl _)⟩
  have hbytes : ¬ ((info.bytes : Int) * q > 2 ^ 48) := by
    rw [hb2, Int.mul_comm]; simp; omega
  simp only [Instr.makeSlice, Sem.run_bind, run_under hu, Result.andThen_ok, asInt, asIntOf, Sem.run_pure, typeInfo, run_program, hi, hwq, hwn]
  have hcond : ((decide (q < 0) || decide ((info.bytes : Int) * q > 2 ^ 48) || decide (n < 0) || decide (n > q)) = true) = False := by
    simp only [Bool.or_eq_true, decide_eq_true_eq, eq_iff_iff, iff_false]
    omega
  simp only [hcond, if_false, Sem.run_bind, run_askRoom, Result.andThen_ok, run_size hs, Sem.run_pure]
  have hE : q.toNat * size = 0 → ∀ f g : Nat → Value, (Array.range (q.toNat * size)).map f = (Array.range (q.toNat * size)).map g := by intro h0 f g; rw [h0]; simp
  split
  · rename_i h0
    simp only [Sem.run_bind, Sem.run_pure, Result.andThen_ok]
    rw [hE h0 _ (fun x => zv.cells[x % zv.cells.size]!)]
    simp only [run_newRow, Result.andThen_ok]
  · simp only [Sem.run_bind, h1, Sem.run_pure, Result.andThen_ok, run_newRow]
end
end Go.Abs
/- Abs10: slices and strings: cut, converted, appended to, copied. Conditions: none. -/
namespace Go.Abs
section
variable {G : Nat → Option Nat} {B : Nat} {E : Env} {h h' : AHeap} {w : World} {P : Program}
def OVR (E : Env) : Option Value → Option Value → Prop
  | none, none => True
  | some v, some v' => VR E v v'
  | _, _ => False
theorem run_bound {x : Value} {d i y : Nat} {x' : Value} (hx : VR E x x') (hb : boundA d (some x) = some i) (hy : i ≤ y) (code : BoundsCode) (w : World) : (Instr.sliceBound x' y code).run P w = .ok i w := by
  unfold boundA at hb
  split at hb
  · rename_i hh; cases hh
  · rename_i k m hh
    cases hh
    split at hb
    · rename_i h0
      cases hb
      cases hx
      simp only [Instr.sliceBound, asIntOf, Sem.run_bind, Sem.run_pure, Result.andThen_ok]
      rw [if_pos ⟨h0, by omega⟩]
      rfl
    · cases hb
  · cases hb
/-- The model's bounds, where the slice may have more room than is told. -/
theorem run_bounds {lo hi lo' hi' : Option Value} {n cap l r : Nat} (hlo : OVR E lo lo') (hhi : OVR E hi hi') (hcap : n ≤ cap) (hb : boundsA n lo hi = some (l, r)) (isS : Bool) (w : World) :
    (Instr.sliceBounds isS n cap lo' hi' none).run P w = .ok (l, r, cap) w ∧ l ≤ r ∧ r ≤ n := by
  unfold boundsA at hb
  split at hb
  case h_2 => cases hb
  rename_i l0 r0 h1 h2
  split at hb
  case isFalse => cases hb
  rename_i hc
  cases hb
  refine ⟨?_, hc.1, hc.2⟩
  cases hi with
  | none =>
    cases hi' with
    | some _ => exact hhi.elim
    | none =>
      simp only [boundA, Option.some.injEq] at h2
      subst h2
      cases lo with
      | none =>
        cases lo' with
        | some _ => exact hlo.elim
        | none => simp only [boundA, Option.some.injEq] at h1; subst h1; rfl
      | some x =>
        cases lo' with
        | none => exact hlo.elim
        | some x' =>
          simp only [Instr.sliceBounds, Sem.run_bind, Sem.run_pure, Result.andThen_ok, Option.isSome_none, Bool.false_eq_true, if_false, run_bound hlo h1 hc.1]
  | some y =>
    cases hi' with
    | none => exact hhi.elim
    | some y' =>
      have hy := fun code => run_bound (P := P) (y := cap) hhi h2 (by omega) code w
      cases lo with
      | none =>
        cases lo' with
        | some _ => exact hlo.elim
        | none =>
          simp only [boundA, Option.some.injEq] at h1; subst h1
          simp only [Instr.sliceBounds, Sem.run_bind, Sem.run_pure, Result.andThen_ok, hy]
      | some x =>
        cases lo' with
        | none => exact hlo.elim
        | some x' =>
          simp only [Instr.sliceBounds, Sem.run_bind, Sem.run_pure, Result.andThen_ok, hy, Option.isSome_none, Bool.false_eq_true, if_false, run_bound hlo h1 hc.1]
theorem slice_sim (s : Sim G B E h w) {t : TypeId} {x x' v : Value} {lo hi lo' hi' : Option Value} (hx : VR E x x') (hlo : OVR E lo lo') (hhi : OVR E hi hi') (hs : sliceA P t x lo hi h = some v) :
    ∃ v', (Instr.sliceAt t x' lo' hi' none).run P w = .ok v' w ∧ VR E v v' := by
  unfold sliceA at hs
  split at hs
  · rename_i st hu
    simp only [Option.map_eq_some_iff] at hs
    obtain ⟨⟨l, r⟩, hb, rfl⟩ := hs
    cases hx
    obtain ⟨h1, h2, h3⟩ := run_bounds (P := P) hlo hhi (Nat.le_refl _) hb false w
    refine ⟨_, ?_, .string _⟩
    simp only [Instr.sliceAt, Sem.run_bind, run_under hu, Result.andThen_ok, Instr.slice, Option.isSome_none, Bool.false_eq_true, if_false, h1, Sem.run_pure]
  · rename_i e hu
    split at hs
    · rename_i sz lr hsz hb
      obtain ⟨l, r⟩ := lr
      cases hs
      cases hx
      obtain ⟨h1, h2, h3⟩ := run_bounds (P := P) hlo hhi (Nat.le_refl 0) hb true w
      obtain rfl : r = 0 := by omega
      obtain rfl : l = 0 := by omega
      refine ⟨.slice none 0 0, ?_, .nilsl⟩
      simp only [Instr.sliceAt, Sem.run_bind, run_under hu, Result.andThen_ok, Instr.slice, h1, run_size hsz, Sem.run_pure]
      rfl
    · cases hs
  · rename_i e b o n m hu
    split at hs
    · rename_i l r size k hb hsz hk
      split at hs
      · rename_i hes
        cases hs
        obtain ⟨off, cap, en, rfl, he, g1, g2, g3⟩ : ∃ off cap en, x' = .slice (some ⟨en.blk, off, none⟩) n cap ∧ E b = some en ∧ n ≤ cap ∧ (cap ≠ 0 → off + cap * en.esz ≤ en.csz) ∧ (n ≠ 0 → off = en.base + o) := by
          cases hx with
          | sl he h1 h2 h3 => exact ⟨_, _, _, rfl, he, h1, h2, h3⟩
        obtain ⟨h1, h2, h3⟩ := run_bounds (P := P) hlo hhi g1 hb true w
        obtain ⟨_, _, _, _, _, hesz, _⟩ := s.obj b _ en (blkA_some hk) he
        have hes' : en.esz = size := by rw [← hesz]; exact hes
        refine ⟨.slice (if cap = l then some ⟨en.blk, off, none⟩ else some ⟨en.blk, off + l * size, none⟩) (r - l) (cap - l), ?_, ?_⟩
        · simp only [Instr.sliceAt, Sem.run_bind, run_under hu, Result.andThen_ok, Instr.slice, h1, run_size hsz, Sem.run_pure, Option.map_some, addr_add]
        · by_cases hc : cap = l
          · rw [if_pos hc]
            exact .sl he (by omega) (fun hh => by omega) (fun hh => by omega)
          · rw [if_neg hc]
            refine .sl he (by omega) (fun hh => ?_) (fun hh => ?_)
            · have : l * size + (cap - l) * size = cap * size := by rw [← Nat.add_mul]; congr 1; omega
              have g2' := g2 (by omega)
              rw [hes'] at g2' ⊢
              omega
            · have := g3 (by omega); omega
      · cases hs
    · cases hs
  · rename_i n e b o hu
    split at hs
    · rename_i l r size k hb hsz hk
      split at hs
      · rename_i hes
        cases hs
        cases hx
        rename_i en he
        obtain ⟨h1, h2, h3⟩ := run_bounds (P := P) hlo hhi (Nat.le_refl n) hb false w
        have hor := s.obj b _ en (blkA_some hk) he
        obtain ⟨c, el, fz, a1, a2, hesz, a4, a5⟩ := hor
        have hes' : en.esz = size := by rw [← hesz]; exact hes.1
        obtain ⟨hes0, hpos, hlen⟩ := hes
        have hfit : en.base + o + n * size ≤ en.csz := by
          have hlt : o + n * size - 1 < k.cells.length := by omega
          obtain ⟨v', p, _⟩ := a4 _ _ (List.getElem?_eq_getElem hlt)
          have := (Array.getElem?_eq_some_iff.1 p).1
          omega
        refine ⟨.slice (some (if n = l then ⟨en.blk, en.base + o, none⟩ else ⟨en.blk, en.base + o + l * size, none⟩)) (r - l) (n - l), ?_, ?_⟩
        · simp only [Instr.sliceAt, Sem.run_bind, run_under hu, Result.andThen_ok, Instr.sureAddr, h1, run_size hsz, Sem.run_pure, addr_add]
        · have hbound : (if n = l then (⟨en.blk, en.base + o, none⟩ : Addr) else ⟨en.blk, en.base + o + l * size, none⟩) = ⟨en.blk, if n = l then en.base + o else en.base + (o + l * size), none⟩ := by
            split <;> simp [Nat.add_assoc]
          rw [hbound]
          by_cases hc : n = l
          · rw [if_pos hc]
            exact .sl he (by omega) (fun hh => by omega) (fun hh => by omega)
          · rw [if_neg hc]
            refine .sl he (by omega) (fun _ => ?_) (fun _ => rfl)
            have : l * size + (n - l) * size = n * size := by rw [← Nat.add_mul]; congr 1; omega
            rw [hes']
            omega
      · cases hs
    · cases hs
  · cases hs
end
end Go.Abs
/- Abs11: conversions, a range over a string, append, copy. Conditions: none. -/
namespace Go.Abs
theorem strOf_ints : ∀ (l : List Value) (bs : List UInt8), strOf l = some bs → ∃ ns : List Int, l = ns.map (Value.int .u8) ∧ bs = ns.map fun n => UInt8.ofNat n.toNat
  | [], bs, h => by simp only [strOf, Option.some.injEq] at h; exact ⟨[], rfl, h.symm⟩
  | v :: l, bs, h => by
    cases v with
    | int k n =>
      cases k <;> simp only [strOf, reduceCtorEq, Option.map_eq_some_iff] at h
      obtain ⟨r, h1, rfl⟩ := h
      obtain ⟨ns, rfl, rfl⟩ := strOf_ints l r h1
      exact ⟨n :: ns, rfl, rfl⟩
    | _ => simp [strOf] at h
theorem foldl_push : ∀ (ns : List Int) (s : ByteArray), ns.foldl (fun r n => r.push (UInt8.ofNat n.toNat)) s = ⟨s.data ++ (ns.map fun n => UInt8.ofNat n.toNat).toArray⟩
  | [], s => by simp
  | n :: ns, s => by
    simp only [List.foldl_cons, foldl_push ns, List.map_cons]
    congr 1
    apply Array.ext'
    simp [ByteArray.push]
theorem LR.ints {E : Env} : ∀ {ns : List Int} {ys : List Value}, LR E (ns.map (Value.int .u8)) ys → ys = ns.map (Value.int .u8)
  | [], ys, h => by have := h.1; cases ys with | nil => rfl | cons _ _ => simp at this
  | n :: ns, ys, h => by
    obtain ⟨y, zs, rfl, h1, h2⟩ := LR.cases (xs := ns.map (Value.int .u8)) h
    cases h1
    rw [LR.ints h2]; rfl
section
variable {G : Nat → Option Nat} {B : Nat} {E : Env} {h h' : AHeap} {w : World} {P : Program}
theorem isU8_under {e : TypeId} (he : isU8 P e = true) : P.underlying e = some (.int .u8) := by
  unfold isU8 at he
  split at he
  · assumption
  · cases he
/-- A slice's cells, as the model loads them (k elements of n). -/
theorem sliceCells_sim (s : Sim G B E h w) {size : Nat} {x x' : Value} {l : List Value} (hx : VR E x x') (hl : sliceCells h size x = some l) {a : Option Addr} {n m : Nat} (hxe : x = .slice a n m) :
    ∃ l', LR E l l' ∧ l.length = n * size ∧ (∀ k, k ≤ n → ∀ w' : World, w'.heap = w.heap → (Builtin.firstCells size k x').run P w' = .ok (l'.take (k * size)).toArray w') ∧ (∃ a' m', x' = .slice a' n m' ∧ (a' = none → n = 0)) := by
  subst hxe
  unfold sliceCells at hl
  split at hl
  · rename_i hh
    cases hl
    cases hh
    cases hx
    refine ⟨[], LR.nil E, by simp, fun k hk w' hw => ?_, none, 0, rfl, fun _ => rfl⟩
    simp [Builtin.firstCells]
  · rename_i b o n' m' hh
    cases hh
    split at hl
    · rename_i kk hb
      obtain ⟨off, cap, en, rfl, he, g1, g2, g3⟩ : ∃ off cap en, x' = .slice (some ⟨en.blk, off, none⟩) n cap ∧ E b = some en ∧ n ≤ cap ∧ (cap ≠ 0 → off + cap * en.esz ≤ en.csz) ∧ (n ≠ 0 → off = en.base + o) := by
        cases hx with
        | sl he h1 h2 h3 => exact ⟨_, _, _, rfl, he, h1, h2, h3⟩
      obtain ⟨l', h2, h3, h3', h4⟩ := cells_at (s.obj b _ en (blkA_some hb) he) hl
      refine ⟨l', h2, h3', fun k hk w' hw => ?_, _, _, rfl, by simp⟩
      by_cases hk0 : k * size = 0
      · simp [Builtin.firstCells, hk0, loadCells, loadCellsFrom]
      · have hn0 : n ≠ 0 := by intro h0; rw [h0] at hk; have : k = 0 := by omega
                               rw [this] at hk0; simp at hk0
        have hlen : (l'.take (k * size)).length = k * size := by
          rw [List.length_take, h3]; exact Nat.min_eq_left (Nat.mul_le_mul_right _ hk)
        have hr := run_loadCells_list (P := P) w' ⟨en.blk, off, none⟩ (l'.take (k * size)) (fun j v hv => by
          rw [List.getElem?_take] at hv
          split at hv
          · rw [addr_add, g3 hn0]
            have := h4 j v hv
            simpa [World.cell?, hw] using this
          · cases hv)
        rw [hlen] at hr
        simp only [Builtin.firstCells, hr]
    · cases hl
  · cases hl
theorem conv_sim (s : Sim G B E h w) (hfree : h.length < h'.length → E h.length = none) {src dst : TypeId} {x x' v : Value} (hx : VR E x x') (hc : convA P src dst x h = some (v, h')) :
    OpR G B E h h' P w v (convert src dst x') := by
  unfold convA at hc
  split at hc
  · rename_i u k kk n hu hd
    cases hc; cases hx
    refine ⟨E, _, w, ?_, Post.refl s, .int _ _⟩
    simp only [convert, Sem.run_bind, run_under hu, run_under hd, Result.andThen_ok]
    rfl
  · rename_i u k n hu hd
    cases hc; cases hx
    refine ⟨E, _, w, ?_, Post.refl s, .string _⟩
    simp only [convert, Sem.run_bind, run_under hu, run_under hd, Result.andThen_ok]
    rfl
  · rename_i u st hu hd
    cases hc; cases hx
    refine ⟨E, _, w, ?_, Post.refl s, .string _⟩
    simp only [convert, Sem.run_bind, run_under hu, run_under hd, Result.andThen_ok]
    rfl
  · rename_i u e st hu hd
    split at hc
    case isFalse => cases hc
    rename_i he
    obtain ⟨he1, he2⟩ := he
    cases hc; cases hx
    have hf : E h.length = none := hfree (by simp [newA])
    have hue := isU8_under he1
    let q : Question := .appendCap st.size 0 e
    let cap := q.cut (w.tape w.drawn q)
    have hcap : st.size ≤ cap := by simp only [cap, q, Question.cut]; omega
    let arr : Array Value := (st.data.map fun b => Value.int .u8 b.toNat) ++ Array.replicate (cap - st.size) (.int .u8 0)
    have hasz : arr.size = cap := by simp only [arr, Array.size_append, Array.size_map, Array.size_replicate]; show st.size + _ = _; omega
    let w1 : World := w.drew
    let w2 : World := (w1.alloc (.cells arr e)).freeze ⟨w.heap.size, arr.size, none⟩ 1
    have hheap : w2.heap = w.heap.push (.cells arr e (arr.size, arr.size + 1)) := by
      apply Array.ext_getElem?
      intro i
      show ((w.heap.push (Obj.cells arr e)).modify w.heap.size _)[i]? = _
      rw [Array.getElem?_modify, Array.getElem?_push, Array.getElem?_push]
      by_cases hi : i = w.heap.size
      · subst hi; simp
      · rw [if_neg (fun hh => hi hh.symm)]
        simp [hi]
    have hle := Env.put_le (n := h.length) ⟨w.heap.size, 0, arr.size, 1⟩ hf
    have hpost : Post G B E (E.put h.length ⟨w.heap.size, 0, arr.size, 1⟩) h (h ++ [some (.cells ⟨bytesV st, 1, false⟩)]) w w2 := by
      refine post_push s hf rfl hheap rfl rfl rfl ?_
      refine ⟨arr, e, (arr.size, arr.size + 1), by rw [hheap]; simp, rfl, rfl, fun j u hj => ?_, fun _ => .inr (by simp)⟩
      have hj' : j < (bytesV st).length := (List.getElem?_eq_some_iff.1 hj).1
      have hj2 : j < st.data.size := by simpa [bytesV] using hj'
      refine ⟨u, ?_, ?_⟩
      · simp only [arr, Nat.zero_add]
        rw [Array.getElem?_append_left (by simpa using hj2)]
        simpa [bytesV, hj2] using hj
      · simp only [bytesV, List.getElem?_map, Option.map_eq_some_iff] at hj
        obtain ⟨bb, _, rfl⟩ := hj
        exact .int _ _
    refine ⟨_, .slice (some ⟨w.heap.size, 0, none⟩) st.size cap, w2, ?_, hpost, new_sl hcap (by rw [hasz]; simp)⟩
    simp only [convert, Sem.run_bind, run_under hu, run_under hd, Result.andThen_ok, run_under hue, Conv.stringToBytes, run_choose]
    have hforced : (Question.appendCap st.size 0 e).forced = false := rfl
    simp only [hforced, Bool.false_eq_true, if_false, Result.andThen_ok, run_newRow, markStringish, Sem.run_bind, run_shape]
    have hshape : (({ heap := w.heap, tape := w.tape, drawn := w.drawn + 1, os := w.os, output := w.output } : World).alloc (.cells (Array.map (fun b => Value.int IntKind.u8 ↑b.toNat) st.data ++ Array.replicate ((Question.appendCap st.size 0 e).cut (w.tape w.drawn (Question.appendCap st.size 0 e)) - st.size) (Value.int IntKind.u8 0)) e)).shape? w.heap.size = some (e, arr.size) := by
      show (match (w.heap.push (Obj.cells arr e))[w.heap.size]? with | some (.cells c elem _) => some (elem, c.size) | _ => none) = _
      rw [Array.getElem?_push_size]
    rw [hshape]
    rfl
  · rename_i e a n m hu hd
    split at hc
    case isFalse => cases hc
    rename_i he
    split at hc
    case h_2 => cases hc
    rename_i l hl
    cases hc
    simp only [Option.bind_eq_some_iff] at hl
    obtain ⟨cs, hcs, hst⟩ := hl
    obtain ⟨ns, rfl, rfl⟩ := strOf_ints cs l hst
    obtain ⟨l', h1, h2, h3, a', m', rfl, ha'⟩ := sliceCells_sim (P := P) s hx hcs rfl
    replace h3 := h3 n (Nat.le_refl n) w rfl
    have hl' := LR.ints h1
    refine ⟨E, _, w, ?_, Post.refl s, .string _⟩
    rw [run_convert_bytes_string w src dst e _ _ _ hu (isU8_under he) hd]
    cases a' with
    | none =>
      have hn := ha' rfl
      have : ns = [] := by have := h2; rw [hn] at this; simpa using this
      subst this
      rfl
    | some ad =>
      have hlen : l'.take n = ns.map (Value.int .u8) := by
        rw [hl', List.take_of_length_le (by rw [h2]; omega)]
      simp only [Builtin.firstCells, Nat.mul_one, hlen] at h3
      rw [run_bytesToString w ad n m' ns h3, foldl_push]
      simp [ByteArray.empty, ByteArray.emptyWithCapacity]
      rfl
  · rename_i e' e b o n m hu hd
    split at hc
    case isFalse => cases hc
    rename_i he
    obtain ⟨rfl, he⟩ := he
    split at hc
    case h_2 => cases hc
    rename_i k hb
    split at hc
    case isFalse => cases hc
    rename_i hro
    cases hc
    have hx0 := hx
    obtain ⟨off, cap, en, rfl, hen⟩ : ∃ off cap en, x' = .slice (some ⟨en.blk, off, none⟩) n cap ∧ E b = some en := by
      cases hx with
      | sl he h1 h2 h3 => exact ⟨_, _, _, rfl, he⟩
    obtain ⟨c, el, fz, a1, a2, a3, a4, a5⟩ := s.obj b _ en (blkA_some hb) hen
    have hshape : w.shape? en.blk = some (el, c.size) := by simp [World.shape?, a1]
    have hheap : (w.freeze ⟨en.blk, c.size, none⟩ 1).heap = w.heap.modify en.blk fun
      | .cells c' elem (lo, hi) => .cells c' elem (if lo == hi then (c.size, c.size + 1) else (min lo c.size, max hi (c.size + 1)))
      | o => o := rfl
    have hget : (w.freeze ⟨en.blk, c.size, none⟩ 1).heap[en.blk]? = some (.cells c el (if fz.1 == fz.2 then (c.size, c.size + 1) else (min fz.1 c.size, max fz.2 (c.size + 1)))) := by
      rw [hheap, Array.getElem?_modify, if_pos rfl, a1]
      obtain ⟨lo, hi⟩ := fz
      rfl
    have hpost : Post G B E E h (h.set b (some (.cells k))) w (w.freeze ⟨en.blk, c.size, none⟩ 1) := by
      refine post_set s (blkA_some hb) hen (by simp [wrO, hro]) ?_ (fun x hx => ?_) rfl rfl rfl ?_ (by simp [wrO, hro])
      · rw [hheap]; simp
      · rw [hheap, Array.getElem?_modify, if_neg (fun hh => hx hh.symm)]
      · refine ⟨c, el, _, hget, a2, a3, a4, fun _ => ?_⟩
        have := a5 hro
        split
        · exact .inr (Nat.le_refl _)
        · rename_i hne
          simp only [beq_iff_eq] at hne
          simp only
          omega
    have hset : h.set b (some (.cells k)) = h := by
      have h1 := blkA_some hb
      apply List.ext_getElem?
      intro i
      by_cases hi : b = i
      · subst hi
        rw [List.getElem?_set_self (List.getElem?_eq_some_iff.1 h1).1, h1]
      · rw [List.getElem?_set_ne hi]
    rw [hset] at hpost
    refine ⟨E, _, _, ?_, hpost, hx0⟩
    have hbeq : (src == src) = true := by simp
    rw [hu] at hd
    cases hd
    simp only [convert, Sem.run_bind, run_under hu, Result.andThen_ok, hbeq, run_under (isU8_under he)]
    simp only [markStringish, Sem.run_bind, run_shape, Result.andThen_ok, hshape, run_freeze, Sem.run_pure]
  · cases hc
theorem range_sim (s : Sim G B E h w) (hfree : E h.length = none) {t : TypeId} {st : ByteArray} (hu : P.underlying t = some .string) :
    OpR G B E h (h ++ [some (.iter st 0)]) P w (.pointer (some ⟨h.length, 0, none⟩)) (Instr.range t (.string st)) := by
  have hpost := post_push (o := .iter st 0) (ob := .stringIter st 0) (e := ⟨w.heap.size, 0, 0, 0⟩) (w' := w.alloc (.stringIter st 0)) s hfree rfl rfl rfl rfl rfl ⟨rfl, Array.getElem?_push_size⟩
  refine ⟨_, .pointer (some ⟨w.heap.size, 0, none⟩), _, ?_, hpost, new_vr rfl⟩
  simp only [Instr.range, Sem.run_bind, run_under hu, Result.andThen_ok, Sem.run_pure, run_newObj]
  rfl
theorem next_sim (s : Sim G B E h w) {r : Nat} {x' : Value} {st : ByteArray} {pos : Nat} (hx : VR E (.pointer (some ⟨r, 0, none⟩)) x') (hr : h[r]? = some (some (.iter st pos))) (ty : TypeId) :
    if pos < st.size then OpR G B E h (h.set r (some (.iter st (pos + (Utf8.decode st pos).2)))) P w (.tuple #[.bool true, .int .i64 pos, .int .i32 (Utf8.decode st pos).1]) (Instr.next x' true ty)
    else OpR G B E h h P w (.tuple #[.bool false]) (Instr.next x' true ty) := by
  cases hx
  rename_i e he
  obtain ⟨hb0, hor⟩ : e.base = 0 ∧ w.heap[e.blk]? = some (.stringIter st pos) := s.obj r _ e hr he
  rw [hb0]
  have hg : ∀ {α : Type} (k : Obj → Sem α), ((getObj e.blk) >>= k).run P w = (k (.stringIter st pos)).run P w := by
    intro α k
    simp only [Sem.run_bind]
    show (Sem.run P (.getObj e.blk .pure) w).andThen _ = _
    simp only [Sem.run, hor, Result.andThen_ok]
  split
  · rename_i hp
    let w' : World := { w with heap := w.heap.setIfInBounds e.blk (.stringIter st (pos + (Utf8.decode st pos).2)) }
    have hlt : e.blk < w.heap.size := (Array.getElem?_eq_some_iff.1 hor).1
    have hpost : Post G B E E h (h.set r (some (.iter st (pos + (Utf8.decode st pos).2)))) w w' := by
      refine post_set s hr he rfl (by simp [w']) (fun x hx => ?_) rfl rfl rfl ?_ rfl
      · show (w.heap.setIfInBounds _ _)[x]? = _
        rw [Array.getElem?_setIfInBounds_ne (fun hh => hx hh.symm)]
      · refine ⟨hb0, ?_⟩
        show (w.heap.setIfInBounds _ _)[e.blk]? = _
        rw [Array.getElem?_setIfInBounds_self_of_lt hlt]
    refine ⟨E, _, w', ?_, hpost, VR.plain E 3 _ (by rfl)⟩
    unfold Instr.next
    refine (hg _).trans ?_
    simp only [if_pos hp, Sem.run_bind]
    show ((Sem.run P (.setObj e.blk _ (.pure ())) w).andThen _) = _
    simp only [Sem.run, hor, Result.andThen_ok]
    rfl
  · rename_i hp
    refine ⟨E, _, w, ?_, Post.refl s, VR.plain E 3 _ (by rfl)⟩
    unfold Instr.next
    refine (hg _).trans ?_
    simp only [if_neg hp]
    rfl
end
end Go.Abs
/- Abs12: append and copy. Conditions: none. -/
namespace Go.Abs
theorem putCells_get : ∀ (vs l : List Value) (o i : Nat), (putCells l o vs)[i]? = if o ≤ i ∧ i < o + vs.length ∧ i < l.length then vs[i - o]? else l[i]?
  | [], l, o, i => by
    simp only [putCells, List.length_nil, Nat.add_zero]
    rw [if_neg (by omega)]
  | v :: vs, l, o, i => by
    simp only [putCells]
    rw [putCells_get vs, List.length_set, List.length_cons, List.getElem?_set]
    by_cases h1 : i = o
    · subst h1
      rw [if_neg (by omega), if_pos rfl]
      by_cases h2 : i < l.length
      · rw [if_pos h2, if_pos ⟨Nat.le_refl _, by omega, h2⟩]; simp
      · rw [if_neg h2, if_neg (by omega), List.getElem?_eq_none (by omega)]
    · have e1 : (if o = i then if o < l.length then some v else none else l[i]?) = l[i]? := if_neg (fun hh => h1 hh.symm)
      rw [e1]
      by_cases h2 : o + 1 ≤ i ∧ i < o + 1 + vs.length ∧ i < l.length
      · rw [if_pos h2, if_pos (by omega)]
        have : i - o = (i - (o + 1)) + 1 := by omega
        rw [this]; simp
      · rw [if_neg h2, if_neg (by omega)]
section
variable {G : Nat → Option Nat} {B : Nat} {E : Env} {h h' : AHeap} {w : World} {P : Program}
theorem more_sim (s : Sim G B E h w) {size m : Nat} {x x' : Value} {new : List Value} (hx : VR E x x') (hm : moreA h size x = some (new, m)) :
    ∃ new', LR E new new' ∧ new.length = m * size ∧ (∀ w', (Builtin.lenOf x').run P w' = .ok m w') ∧ ∀ k, k ≤ m → ∀ w' : World, w'.heap = w.heap → (Builtin.firstCells size k x').run P w' = .ok (new'.take (k * size)).toArray w' := by
  unfold moreA at hm
  split at hm
  · rename_i st
    split at hm
    · rename_i hs
      subst hs
      cases hm
      cases hx
      refine ⟨bytesV st, LR.plain E 1 _ ?_, by simp only [bytesV, List.length_map, Array.length_toList, Nat.mul_one]; rfl, fun _ => rfl, fun k hk w' _ => ?_⟩
      · rw [List.all_eq_true]
        intro v hv
        simp only [bytesV, List.mem_map] at hv
        obtain ⟨b, _, rfl⟩ := hv
        rfl
      · show Result.ok _ w' = _
        congr 1
        apply Array.ext'
        simp only [Array.toList_map, bytesV, Nat.mul_one]
        rw [← List.map_take]
        congr 1
        rw [ByteArray.data_extract, Array.toList_extract]
        rfl
    · cases hm
  · rename_i a n m'
    simp only [Option.map_eq_some_iff] at hm
    obtain ⟨l, hl, hh⟩ := hm
    cases hh
    obtain ⟨l', h1, h2, h3, a', c', rfl, _⟩ := sliceCells_sim (P := P) s hx hl rfl
    exact ⟨l', h1, h2, fun _ => rfl, h3⟩
  · cases hm
theorem VR.mono_slot {E' : Env} {l l' : List Value} {base : Nat} (hE : E.le E') (hs : Shift E base l l') : Shift E' base l l' := fun j v hj => let ⟨v', p, q⟩ := hs j v hj; ⟨v', p, q.mono hE⟩
/-- append, where there is room. -/
theorem run_append_fit {w' : World} {t u e : TypeId} {size m n cap : Nat} {d : TypeDesc} {a : Option Addr} {ts : Array TypeId} {ty : TypeId} {x' : Value} (ht : ts[0]? = some t) (hu : ts[1]? = some u) (hud : P.underlying u = some d) (hnot : ∀ k, d ≠ .int k)
    (hte : P.underlying t = some (.slice e)) (hsz : sizeA P e = some size) (hlen : ∀ w, (Builtin.lenOf x').run P w = .ok m w) (hroom : n + m ≤ cap) {c : Array Value} (hfc : (Builtin.firstCells size m x').run P w = .ok c w)
    (hst : ∀ ad, a = some ad → (storeCells (ad.add (n * size)) c.toList).run P w = .ok () w') (hn : a = none → w' = w) :
    (Builtin.append_ ts ty #[.slice a n cap, x']).run P w = .ok (.slice a (n + m) cap) w' := by
  cases a with
  | none =>
    have := hn rfl
    subst this
    simp [Builtin.append_, ht, hu, run_under hte, run_size hsz, run_under hud, hlen, hroom, hfc]
  | some ad =>
    have := hst ad rfl
    simp [Builtin.append_, ht, hu, run_under hte, run_size hsz, run_under hud, hlen, hroom, hfc, this]
/-- append, where a new row is made. -/
theorem run_append_new {t u e : TypeId} {m n cap : Nat} {i : TypeInfo} {d : TypeDesc} {a : Option Addr} {ts : Array TypeId} {ty : TypeId} {x' : Value} (ht : ts[0]? = some t) (hu : ts[1]? = some u) (hud : P.underlying u = some d) (hnot : ∀ k, d ≠ .int k)
    (hte : P.underlying t = some (.slice e)) (hi : P.info? e = some i) {z : Value} (hzv : i.zero = some z) (hlen : ∀ w, (Builtin.lenOf x').run P w = .ok m w) (hroom : ¬ n + m ≤ cap) (h63 : n + m ≤ 9223372036854775807) (hbytes : (n + m) * i.bytes ≤ 140737488355328) {c o : Array Value}
    (hfc : (Builtin.firstCells i.size m x').run P w.drew = .ok c w.drew) (hfo : (Builtin.firstCells i.size n (.slice a n cap)).run P w.drew = .ok o w.drew) :
    (Builtin.append_ ts ty #[.slice a n cap, x']).run P w = .ok (.slice (some ⟨w.heap.size, 0, none⟩) (n + m) ((Question.appendCap (n + m) cap e).cut (w.tape w.drawn (.appendCap (n + m) cap e))))
      (w.drew.alloc (.cells (o ++ c ++ Builtin.zeroCells z.cells ((Question.appendCap (n + m) cap e).cut (w.tape w.drawn (.appendCap (n + m) cap e)) - (n + m))) e)) := by
  have hg := growslice_fits (need := n + m) (old := cap) (by omega) hbytes
  have h1 : ¬ (9223372036854775807 < (n : Int) + m) := by omega
  have h2 : ¬ (281474976710656 < Builtin.nextslicecap (n + m) cap * i.bytes) := by omega
  have hsz : sizeA P e = some i.size := by simp [sizeA, hi]
  simp [Builtin.append_, ht, hu, run_under hte, run_size hsz, run_under hud, hlen, hroom, typeInfo, hi, h1, h2, IntKind.max, IntKind.signed, IntKind.bits, Question.forced, hfc, hfo, zeroValue, hzv, run_newRow]
theorem append_sim (s : Sim G B E h w) (hfree : h.length < h'.length → E h.length = none) {t u : TypeId} {d : TypeDesc} {ts : Array TypeId} {ty : TypeId} {x x' y y' v : Value} (ht : ts[0]? = some t) (hu : ts[1]? = some u) (hud : P.underlying u = some d) (hnot : ∀ k, d ≠ .int k)
    (hx : VR E x x') (hy : VR E y y') (ha : appendA P t x y h = some (v, h')) : OpR G B E h h' P w v (Builtin.append_ ts ty #[x', y']) := by
  unfold appendA at ha
  split at ha
  case h_2 => cases ha
  rename_i e hte
  split at ha
  case h_2 => cases ha
  rename_i size z by_ hsz hz hby
  split at ha
  case isFalse => cases ha
  rename_i hzl
  obtain ⟨hzl, hpos⟩ := hzl
  split at ha
  case h_2 => cases ha
  rename_i new m hm
  obtain ⟨new', hn1, hn2, hn3, hn4⟩ := more_sim (P := P) s hy hm
  have hnl : new'.length = m * size := by rw [← hn1.1]; exact hn2
  have hfull : new'.take (m * size) = new' := List.take_of_length_le (by omega)
  obtain ⟨info, hi, hbi⟩ : ∃ i, P.info? e = some i ∧ i.bytes = by_ := by simpa [bytesA] using hby
  have hisz : info.size = size := by simp [sizeA, hi] at hsz; exact hsz
  obtain ⟨zv, hzv, hzc, hzp⟩ : ∃ zv, info.zero = some zv ∧ zv.cells.toList = z ∧ True := by
    unfold zeroA at hz
    simp only [hi] at hz
    split at hz
    · rename_i v hv
      split at hz
      · cases hz; exact ⟨v, hv, rfl, trivial⟩
      · cases hz
    · cases hz
  have hzsz : zv.cells.size = size := by rw [← Array.length_toList, hzc]; exact hzl
  -- the concrete operand is a slice
  by_cases hm0 : m = 0
  · rw [if_pos hm0] at ha
    subst hm0
    have hnew0 : new' = [] := List.eq_nil_of_length_eq_zero (by simpa using hnl)
    subst hnew0
    have hfc : (Builtin.firstCells size 0 y').run P w = .ok #[] w := by
      have := hn4 0 (Nat.le_refl 0) w rfl; simpa using this
    split at ha
    · cases ha; cases hx
      refine ⟨E, _, w, run_append_fit (w' := w) ht hu hud hnot hte hsz hn3 (Nat.le_refl 0) hfc (by simp) (fun _ => rfl), Post.refl s, .nilsl⟩
    · cases ha
      have hx0 := hx
      rename_i b o n mm
      obtain ⟨off, cap, en, rfl, he, g1, g2, g3⟩ : ∃ off cap en, x' = .slice (some ⟨en.blk, off, none⟩) n cap ∧ E b = some en ∧ n ≤ cap ∧ (cap ≠ 0 → off + cap * en.esz ≤ en.csz) ∧ (n ≠ 0 → off = en.base + o) := by
        cases hx with
        | sl he h1 h2 h3 => exact ⟨_, _, _, rfl, he, h1, h2, h3⟩
      refine ⟨E, _, w, run_append_fit (w' := w) ht hu hud hnot hte hsz hn3 (by omega) hfc (fun ad _ => rfl) (by simp), Post.refl s, hx0⟩
    · cases ha
  · rw [if_neg hm0] at ha
    have hcut : ∀ (n cap : Nat), n + m ≤ (Question.appendCap (n + m) cap e).cut (w.tape w.drawn (.appendCap (n + m) cap e)) := fun n cap => by simp only [Question.cut]; omega
    -- a new row
    have grown : ∀ (hh : AHeap) (_ : Sim G B E hh w) (_ : E hh.length = none) (n cap : Nat) (a : Option Addr) (old old' : List Value), LR E old old' → old.length = n * size → ¬ n + m ≤ cap → n + m ≤ 9223372036854775807 → (n + m) * by_ ≤ 140737488355328 →
        (Builtin.firstCells size n (.slice a n cap)).run P w.drew = .ok old'.toArray w.drew →
        OpR G B E hh (hh ++ [some (.cells ⟨old ++ new, size, false⟩)]) P w (.slice (some ⟨hh.length, 0, none⟩) (n + m) (n + m)) (Builtin.append_ ts ty #[.slice a n cap, y']) := by
      intro hh hs hf n cap a old old' ho1 ho2 hroom h63 hbytes hfo
      have hfc := hn4 m (Nat.le_refl m) w.drew rfl
      rw [hfull] at hfc
      have hr := run_append_new (P := P) (w := w) (ty := ty) ht hu hud hnot hte hi hzv hn3 hroom h63 (by rw [hbi]; exact hbytes) (by rw [hisz]; exact hfc) (by rw [hisz]; exact hfo)
      have hol : old'.length = n * size := by rw [← ho1.1]; exact ho2
      have hasz : (old'.toArray ++ new'.toArray ++ Builtin.zeroCells zv.cells ((Question.appendCap (n + m) cap e).cut (w.tape w.drawn (.appendCap (n + m) cap e)) - (n + m))).size = (Question.appendCap (n + m) cap e).cut (w.tape w.drawn (.appendCap (n + m) cap e)) * size := by
        simp only [Array.size_append, List.size_toArray, hol, hnl, Builtin.zeroCells, Array.size_map, Array.size_range, hzsz, ← Nat.add_mul]
        congr 1
        have := hcut n cap
        omega
      have hpost := row_sim (el := e) (esz := size) hs hf (cells := old ++ new) (c := old'.toArray ++ new'.toArray ++ Builtin.zeroCells zv.cells ((Question.appendCap (n + m) cap e).cut (w.tape w.drawn (.appendCap (n + m) cap e)) - (n + m))) (fun j u hj => by
        obtain ⟨u', p, q⟩ := (ho1.append hn1).2 j u hj
        refine ⟨u', ?_, q⟩
        have hlt : j < (old' ++ new').length := (List.getElem?_eq_some_iff.1 p).1
        rw [Array.getElem?_append_left (by simpa using hlt)]
        simpa using p) (d0 := w.drew) rfl rfl rfl rfl
      exact ⟨_, _, _, hr, hpost, new_sl (hcut n cap) (by rw [hasz]; exact Nat.le_refl _)⟩
    split at ha
    · -- nil
      split at ha
      case isFalse => cases ha
      rename_i hc
      cases ha; cases hx
      have hf : E h.length = none := hfree (by simp [newA])
      have := grown h s hf 0 0 none [] [] (LR.nil E) (by simp) (by omega) (by omega) (by simpa using hc.1) (by simp [Builtin.firstCells])
      simpa [newA] using this
    · rename_i b o n mm
      split at ha
      case h_2 => cases ha
      rename_i k hb
      split at ha
      case isFalse => cases ha
      rename_i hc
      obtain ⟨hro, hes, hbytes, h63, hall⟩ := hc
      split at ha
      case h_2 => cases ha
      rename_i old hold
      cases ha
      have hf : E h.length = none := hfree (by simp [newA])
      obtain ⟨off, cap, en, rfl, he, g1, g2, g3⟩ : ∃ off cap en, x' = .slice (some ⟨en.blk, off, none⟩) n cap ∧ E b = some en ∧ n ≤ cap ∧ (cap ≠ 0 → off + cap * en.esz ≤ en.csz) ∧ (n ≠ 0 → off = en.base + o) := by
        cases hx with
        | sl he h1 h2 h3 => exact ⟨_, _, _, rfl, he, h1, h2, h3⟩
      have hor := s.obj b _ en (blkA_some hb) he
      obtain ⟨old', ho1, ho2, ho3, ho4⟩ := cells_at hor hold
      have hcell : ∀ (w' : World), w'.heap = w.heap → ∀ (j : Nat) u, old'[j]? = some u → w'.cell? ⟨en.blk, off + j, none⟩ = some u := fun w' hw j u hj => by
        have hj' : j < n * size := by have := (List.getElem?_eq_some_iff.1 hj).1; omega
        have hn0 : n ≠ 0 := by intro h0; rw [h0] at hj'; simp at hj'
        rw [g3 hn0]
        have := ho4 j u hj
        simpa [World.cell?, hw] using this
      by_cases hroom : n + m ≤ cap
      · -- in place
        obtain ⟨c, el, fz, a1, a2, a3, a4, a5⟩ := hor
        have hes' : en.esz = size := by rw [← a3]; exact hes
        have hfit : off + n * size + 0 + new'.length ≤ c.size := by
          have hmul : (n + m) * size ≤ cap * size := Nat.mul_le_mul_right _ hroom
          rw [Nat.add_mul] at hmul
          have g2' := g2 (by omega)
          rw [hes'] at g2'
          omega
        have hone : new'.all oneCellA = true := by
          rw [hn1.allOne]; exact hall
        obtain ⟨w', r1, ⟨dd, r2, r3⟩, r4, r5, r6, r7, r8⟩ := run_stores P en.blk new' (off + n * size) 0 w c el fz a1 (.inr hfit) (fzOld (a5 hro)) hone
        have hfc := hn4 m (Nat.le_refl m) w rfl
        rw [hfull] at hfc
        have hrun := run_append_fit (P := P) (w := w) (w' := w') (ty := ty) (a := some ⟨en.blk, off, none⟩) (n := n) ht hu hud hnot hte hsz hn3 hroom hfc (fun ad hh => by cases hh; rw [addr_add]; exact r1) (by simp)
        have hdsz : dd.size = c.size := by rw [← Array.length_toList, r3, putCells_length]; simp
        have hle := Env.put_le (n := h.length) (⟨en.blk, off, en.csz, en.esz⟩ : Ent) hf
        have hshift : Shift E off (old ++ new) dd.toList := by
          intro j u hj
          rw [r3]
          rw [List.getElem?_append] at hj
          split at hj
          · rename_i hlt
            obtain ⟨u', p, q⟩ := ho1.2 j u hj
            refine ⟨u', ?_, q⟩
            rw [putCells_get, if_neg (by omega)]
            have := hcell w rfl j u' p
            simpa [World.cell?, a1] using this
          · rename_i hge
            obtain ⟨u', p, q⟩ := hn1.2 _ u hj
            refine ⟨u', ?_, q⟩
            have hlt := (List.getElem?_eq_some_iff.1 p).1
            rw [putCells_get, if_pos (by simp; omega)]
            rw [← p]
            congr 1
            omega
        have hpost : Post G B E (E.put h.length ⟨en.blk, off, en.csz, en.esz⟩) h (h.set b none ++ [some (.cells ⟨old ++ new, size, false⟩)]) w w' := by
          refine post_move s hf (blkA_some hb) he (by simp [wrO, hro]) rfl r4 r5 r6 r7 r8 ?_ rfl
          refine ⟨dd, el, fz, r2, by rw [hdsz]; exact a2, hes'.symm, fun j u hj => ?_, fun _ => by have := a5 hro; omega⟩
          obtain ⟨u', p, q⟩ := hshift j u hj
          exact ⟨u', by simpa using p, q.mono hle⟩
        refine ⟨E.put h.length ⟨en.blk, off, en.csz, en.esz⟩, _, w', hrun, ?_, ?_⟩
        · simpa [newA] using hpost
        · have := VR.sl (E := E.put h.length ⟨en.blk, off, en.csz, en.esz⟩) (b := h.length) (o := 0) (n := n + m) (m := n + m) (off := off) (cap := cap) (e := ⟨en.blk, off, en.csz, en.esz⟩) (by simp [Env.put]) hroom g2 (fun _ => by simp)
          simpa [newA] using this
      · -- a new row
        have hkill := post_kill s b
        have hfo : (Builtin.firstCells size n (.slice (some ⟨en.blk, off, none⟩) n cap)).run P w.drew = .ok old'.toArray w.drew := by
          have hr := run_loadCells_list (P := P) w.drew ⟨en.blk, off, none⟩ old' (fun j u hj => by rw [addr_add]; exact hcell w.drew rfl j u hj)
          rw [ho2] at hr
          exact hr
        obtain ⟨E', v', w', q1, q2, q3⟩ := grown (h.set b none) hkill.sim (by simpa using hf) n cap _ old old' ho1 (by omega) hroom h63 hbytes hfo
        refine ⟨E', v', w', q1, ?_, ?_⟩
        · have := hkill.trans q2
          simpa [newA] using this
        · simpa [newA] using q3
    · cases ha
theorem copy_sim (s : Sim G B E h w) {t : TypeId} {ts : Array TypeId} {ty : TypeId} {x x' y y' v : Value} (ht : ts[0]? = some t)
    (hx : VR E x x') (hy : VR E y y') (ha : copyA P t x y h = some (v, h')) : OpR G B E h h' P w v (Builtin.copy_ ts ty #[x', y']) := by
  unfold copyA at ha
  split at ha
  case h_2 => cases ha
  rename_i e hte
  split at ha
  case h_2 => cases ha
  rename_i size hsz
  split at ha
  case isFalse => cases ha
  split at ha
  · rename_i mo hm
    obtain ⟨new, m⟩ := mo
    obtain ⟨new', hn1, hn2, hn3, hn4⟩ := more_sim (P := P) s hy hm
    cases ha; cases hx
    have h0 := hn4 0 (Nat.zero_le _) w rfl
    refine ⟨E, _, w, ?_, Post.refl s, .int _ _⟩
    simp [Builtin.copy_, ht, run_under hte, run_size hsz, hn3] at h0 ⊢
    simp [h0, goInt]
  · rename_i new m b o n mm hm
    obtain ⟨new', hn1, hn2, hn3, hn4⟩ := more_sim (P := P) s hy hm
    simp only [Option.map_eq_some_iff] at ha
    obtain ⟨h2, hw, hh⟩ := ha
    cases hh
    obtain ⟨off, cap, en, rfl, he, g1, g2, g3⟩ : ∃ off cap en, x' = .slice (some ⟨en.blk, off, none⟩) n cap ∧ E b = some en ∧ n ≤ cap ∧ (cap ≠ 0 → off + cap * en.esz ≤ en.csz) ∧ (n ≠ 0 → off = en.base + o) := by
      cases hx with
      | sl he h1 h2 h3 => exact ⟨_, _, _, rfl, he, h1, h2, h3⟩
    obtain ⟨w', r1, r2⟩ := write_sim (P := P) s he (hn1.take (min m n * size)) hw
    have hfc := hn4 (min m n) (Nat.min_le_left _ _) w rfl
    have hst : (storeCells ⟨en.blk, off, none⟩ (new'.take (min m n * size))).run P w = .ok () w' := by
      by_cases hn0 : n = 0
      · subst hn0
        simp only [Nat.min_zero, Nat.zero_mul, List.take_zero] at r1 ⊢
        exact r1
      · rw [g3 hn0]; exact r1
    refine ⟨E, _, w', ?_, r2, .int _ _⟩
    have hmin : Nat.min m n = min m n := rfl
    simp [Builtin.copy_, ht, run_under hte, run_size hsz, hn3, hmin, hfc, hst, goInt]
  · cases ha
end
end Go.Abs
/- Abs13: an operation, whatever it is. Conditions: none. -/
namespace Go.Abs
def CallLen (call : CallF) : Prop := ∀ f args h v h', call f args h = some (v, h') → h.length ≤ h'.length
/-- A call of f: of a function with a text; or of one that the model stands in for, done in one step. -/
def CallOK (P : Program) (f : FuncId) (args : Array Value) (w : World) (R : Ending → World → Prop) : Prop :=
  ((callFunc f args).run P w = .ok (.enter f args) w ∧ Calls P f args w R) ∨ ∃ v w', (callFunc f args).run P w = .ok (.value v) w' ∧ R (.returned v) w'
def CallSim (c : Ctx) (B : Nat) (call : CallF) : Prop :=
  ∀ f args h v h', call f args h = some (v, h') → ∀ E w args', Sim c.G B E h w → LR E args args' → Free E h h' →
    CallOK c.P f args'.toArray w fun e w' => ∃ E' v', e = .returned v' ∧ Post c.G B E E' h h' w w' ∧ VR E' v v'
theorem buildSliceA_ext {P : Program} {t : TypeId} {len : Nat} {ps : List (Nat × Value)} {h h' : AHeap} {v : Value} (hb : buildSliceA P t len ps h = some (v, h')) : ∃ x, h' = h ++ [x] := by
  simp only [buildSliceA, newA] at hb
  repeat' split at hb
  all_goals first | (cases hb; done) | (cases hb; exact ⟨_, rfl⟩)
theorem makeSliceA_ext {P : Program} {t : TypeId} {l m : Value} {h h' : AHeap} {v : Value} (hb : makeSliceA P t l m h = some (v, h')) : ∃ x, h' = h ++ [x] := by
  simp only [makeSliceA, newA] at hb
  repeat' split at hb
  all_goals first | (cases hb; done) | (cases hb; exact ⟨_, rfl⟩)
theorem convA_ext {P : Program} {s d : TypeId} {x : Value} {h h' : AHeap} {v : Value} (hb : convA P s d x h = some (v, h')) : h' = h ∨ ∃ x, h' = h ++ [x] := by
  simp only [convA, newA] at hb
  repeat' split at hb
  all_goals first | (cases hb; done) | (cases hb; first | exact .inl rfl | exact .inr ⟨_, rfl⟩)
theorem writeA_len {h h' : AHeap} {b o : Nat} {vs : List Value} (hw : writeA h b o vs = some h') : h'.length = h.length := by
  unfold writeA at hw
  repeat' split at hw
  all_goals first | (cases hw; done) | (cases hw; simp)
theorem appendA_len {P : Program} {t : TypeId} {x y : Value} {h h' : AHeap} {v : Value} (ha : appendA P t x y h = some (v, h')) : h.length ≤ h'.length := by
  simp only [appendA, newA] at ha
  repeat' split at ha
  all_goals first | (cases ha; done) | (cases ha; simp)
theorem copyA_len {P : Program} {t : TypeId} {x y : Value} {h h' : AHeap} {v : Value} (ha : copyA P t x y h = some (v, h')) : h.length ≤ h'.length := by
  unfold copyA at ha
  repeat' split at ha
  all_goals first | (cases ha; done) | (cases ha; exact Nat.le_refl _) | skip
  simp only [Option.map_eq_some_iff] at ha
  obtain ⟨h2, hw, hh⟩ := ha
  cases hh
  rw [writeA_len hw]; exact Nat.le_refl _
theorem evOp_ext {c : Ctx} {call : CallF} {fr : AFrame} {op : Op} {h h' : AHeap} {v : Value} (hp : (pureOp op || extOp op) = true) (he : evOp c call fr op h = some (v, h')) : ∃ t, h' = h ++ t := by
  unfold evOp at he
  split at he
  · simp only [Option.map_eq_some_iff] at he
    obtain ⟨x, _, hh⟩ := he
    cases hh; exact ⟨[], by simp⟩
  · rename_i hpure
    cases op <;> simp [hpure, extOp] at hp <;> simp only [] at he
    case alloc t => split at he <;> first | (cases he; done) | (cases he; exact ⟨_, rfl⟩)
    case box t x => split at he <;> first | (cases he; done) | (cases he; exact ⟨_, rfl⟩)
    case buildSlice t l ps =>
      split at he
      · obtain ⟨x, rfl⟩ := buildSliceA_ext he; exact ⟨_, rfl⟩
      · cases he
    case load t x =>
      split at he
      · simp only [Option.map_eq_some_iff] at he; obtain ⟨x, _, hh⟩ := he; cases hh; exact ⟨[], by simp⟩
      · cases he
    case convert s d x =>
      split at he
      · rcases convA_ext he with rfl | ⟨x, rfl⟩
        · exact ⟨[], by simp⟩
        · exact ⟨_, rfl⟩
      · cases he
    case makeSlice t l m =>
      split at he
      · obtain ⟨x, rfl⟩ := makeSliceA_ext he; exact ⟨_, rfl⟩
      · cases he
    case slice t x lo hi mx =>
      cases mx with
      | some _ => simp at he
      | none =>
        simp only [] at he
        split at he
        · simp only [Option.map_eq_some_iff] at he; obtain ⟨x, _, hh⟩ := he; cases hh; exact ⟨[], by simp⟩
        · cases he
    case range t x => split at he <;> first | (cases he; done) | (cases he; exact ⟨_, rfl⟩)
theorem evOp_len {c : Ctx} {call : CallF} {fr : AFrame} {op : Op} {h h' : AHeap} {v : Value} (hc : CallLen call) (he : evOp c call fr op h = some (v, h')) : h.length ≤ h'.length := by
  by_cases hp : (pureOp op || extOp op) = true
  · obtain ⟨t, rfl⟩ := evOp_ext hp he; simp
  · simp only [Bool.not_eq_true, Bool.or_eq_false_iff] at hp
    unfold evOp at he
    simp only [hp.1, Bool.false_eq_true, if_false] at he
    have hp2 := hp.2
    split at he
    all_goals try (simp [extOp] at hp2; done)
    · -- store
      split at he
      · simp only [Option.map_eq_some_iff] at he
        obtain ⟨x, hx, hh⟩ := he
        cases hh
        unfold storeA at hx
        repeat' split at hx
        all_goals first | (cases hx; done) | (rw [writeA_len hx]; exact Nat.le_refl _)
      · cases he
    · -- next
      repeat' split at he
      all_goals first | (cases he; done) | (cases he; simp)
    · -- append
      repeat' split at he
      all_goals first | (cases he; done) | exact appendA_len he
    · -- copy
      repeat' split at he
      all_goals first | (cases he; done) | exact copyA_len he
    · -- call
      split at he
      · exact hc _ _ _ _ _ he
      · cases he
    · cases he
end Go.Abs
/- Abs14: an operation, whatever it is: the model's wp out of the evaluator's answer. Conditions: none. -/
namespace Go.Abs
theorem wp_value {P : Program} {o : Oper} {a : Act} {w w' : World} {K : Act → World → Prop} {Q : Exit → Act → World → Prop} {v : Value} (hr : (execOp a.eval o).run P w = .ok (.value v) w') (hK : K (a.put o.dst v) w') : o.wp P a w K Q := by
  unfold Oper.wp; rw [hr]; exact hK
theorem wp_skip' {P : Program} {o : Oper} {a : Act} {w w' : World} {K : Act → World → Prop} {Q : Exit → Act → World → Prop} (hr : (execOp a.eval o).run P w = .ok .skip w') (hK : K (a.put o.dst undef) w') : o.wp P a w K Q := by
  unfold Oper.wp; rw [hr]; exact hK
theorem Sim.gr {G : Nat → Option Nat} {B : Nat} {E : Env} {h : AHeap} {w : World} (s : Sim G B E h w) : GR G E := s.glob
theorem evL_opt {c : Ctx} {E : Env} {n : Nat} {fr : AFrame} {a : Act} (hf : FR E n fr a.tmps) (hg : GR c.G E) {x : Option Operand} {l : List Value} (h : evL c fr x.toList = some l) : OVR E l[0]? (x.map a.eval) := by
  cases x with
  | none => simp only [Option.toList, evL, Option.some.injEq] at h; subst h; trivial
  | some x =>
    have h1 := evL_sim hf hg h
    simp only [Option.toList, List.map_cons, List.map_nil] at h1
    have hl := h1.1
    match l, hl with
    | [v], _ => exact h1.uncons.1
section
variable {c : Ctx} {B : Nat} {call : CallF} {E : Env} {n : Nat} {fr : AFrame} {a : Act} {h h' : AHeap} {w : World}
theorem op_sim (hcs : CallSim c B call) (hf : FR E n fr a.tmps) (s : Sim c.G B E h w) (hfree : Free E h h') {o : Oper} {v : Value} (hev : evOp c call fr o.op h = some (v, h')) {K : Act → World → Prop} {Q : Exit → Act → World → Prop}
    {a2 : Act} (ha : execOp a2.eval o = execOp a.eval o)
    (hK : ∀ E' v' w', Post c.G B E E' h h' w w' → VR E' v v' → K (a2.put o.dst v') w') : o.wp c.P a2 w K Q := by
  have hg : GR c.G E := s.gr
  have hfr : h.length < h'.length → E h.length = none := fun hlt => hfree _ (Nat.le_refl _) hlt
  have byR : ∀ {m : Sem Value}, OpR c.G B E h h' c.P w v m → (execOp a.eval o = (do pure (.value (← m)))) → o.wp c.P a2 w K Q := by
    rintro m ⟨E', v', w', h1, h2, h3⟩ he
    exact wp_value (by rw [ha, he]; exact run_v h1) (hK E' v' w' h2 h3)
  unfold evOp at hev
  split at hev
  · simp only [Option.map_eq_some_iff] at hev
    obtain ⟨x, hx, hh⟩ := hev
    cases hh
    obtain ⟨v', h1, h2⟩ := pur_sim hf hg hx w
    exact wp_value (by rw [ha]; exact h1) (hK E v' w (Post.refl s) h2)
  · rename_i hnp
    clear hnp
    obtain ⟨dst, op, ty, pos, after, guard⟩ := o
    simp only at hev
    split at hev
    · -- alloc
      rename_i t
      split at hev
      · rename_i z m hz hm
        cases hev
        exact byR (alloc_sim s (hfr (by simp [newA])) hz) rfl
      · cases hev
    · -- box
      rename_i t x
      split at hev
      · rename_i u m hu hm
        cases hev
        exact byR (box_sim s (hfr (by simp [newA])) (evA_sim hf hg hu)) rfl
      · cases hev
    · -- buildSlice
      rename_i t len parts
      split at hev
      · rename_i ps hps
        have hlt : h.length < h'.length := by obtain ⟨x, rfl⟩ := buildSliceA_ext hev; simp
        refine byR (buildSlice_sim s (hfr hlt) (evParts_sim hf hg hps) hev) ?_
        have e : (List.map (fun x => match x with | (i, x) => (i, a.eval x)) parts.toList).toArray = parts.map (fun x => match x with | (i, x) => (i, a.eval x)) := by
          apply Array.ext'; simp
        rw [e]; rfl
      · cases hev
    · -- load
      rename_i t x
      split at hev
      · rename_i u hu
        simp only [Option.map_eq_some_iff] at hev
        obtain ⟨y, hy, hh⟩ := hev
        cases hh
        obtain ⟨v', h1, h2⟩ := load_sim (P := c.P) s (evA_sim hf hg hu) hy
        exact byR ⟨E, v', w, h1, Post.refl s, h2⟩ rfl
      · cases hev
    · -- store
      rename_i t x y
      split at hev
      · rename_i u z hu hz
        simp only [Option.map_eq_some_iff] at hev
        obtain ⟨h2, hs, hh⟩ := hev
        cases hh
        obtain ⟨w', h3, h4⟩ := store_sim (P := c.P) s (evA_sim hf hg hu) (evA_sim hf hg hz) hs
        refine wp_skip' (w' := w') ?_ (hK E undef w' h4 (VR.undef E))
        rw [ha]
        show (do (Instr.storeAt t (a.eval x) (a.eval y)); pure Next.skip : Sem Next).run c.P w = _
        simp only [Sem.run_bind, h3, Result.andThen_ok, Sem.run_pure]
      · cases hev
    · -- convert
      rename_i sr d x
      split at hev
      · rename_i u hu
        exact byR (conv_sim s hfr (evA_sim hf hg hu) hev) rfl
      · cases hev
    · -- makeSlice
      rename_i t l m
      split at hev
      · rename_i u z hu hz
        have hlt : h.length < h'.length := by obtain ⟨x, rfl⟩ := makeSliceA_ext hev; simp
        exact byR (makeSlice_sim s (hfr hlt) (evA_sim hf hg hu) (evA_sim hf hg hz) hev) rfl
      · cases hev
    · -- slice
      rename_i t x lo hi
      split at hev
      · rename_i u l r hu hl hr
        simp only [Option.map_eq_some_iff] at hev
        obtain ⟨y, hy, hh⟩ := hev
        cases hh
        obtain ⟨v', h1, h2⟩ := slice_sim (P := c.P) s (evA_sim hf hg hu) (evL_opt hf hg hl) (evL_opt hf hg hr) hy
        exact byR ⟨E, v', w, h1, Post.refl s, h2⟩ rfl
      · cases hev
    · -- range
      rename_i t x
      split at hev
      · rename_i st hx hu
        cases hev
        have hx' := evA_sim hf hg hx
        refine byR (m := Instr.range t (a.eval x)) ?_ rfl
        generalize a.eval x = z at hx'
        cases hx'
        exact range_sim s (hfr (by simp)) hu
      · cases hev
    · -- next
      rename_i x
      split at hev
      · rename_i r hx
        split at hev
        · rename_i st p hr
          have := next_sim (P := c.P) s (evA_sim hf hg hx) hr ty
          split at hev
          · rename_i hp
            cases hev
            rw [if_pos hp] at this
            exact byR this rfl
          · rename_i hp
            cases hev
            rw [if_neg hp] at this
            exact byR this rfl
        · cases hev
      · cases hev
    · -- append
      rename_i args argTypes
      split at hev
      · rename_i x y t u hl ht hu
        obtain ⟨x', y', h1, h2, h3⟩ := arr_two (evL_arr hf hg hl)
        split at hev
        · cases hev
        · rename_i d hnot hd
          have hlen := appendA_len hev
          refine byR (append_sim (ty := ty) s hfr ht hu hd (fun k hk => hnot k hk) h2 h3 hev) ?_
          simp only [execOp, resolve, invoke, builtin, h1]
          rfl
        · cases hev
      · cases hev
    · -- copy
      rename_i args argTypes
      split at hev
      · rename_i x y t hl ht
        obtain ⟨x', y', h1, h2, h3⟩ := arr_two (evL_arr hf hg hl)
        refine byR (copy_sim (ty := ty) s ht h2 h3 hev) ?_
        simp only [execOp, resolve, invoke, builtin, h1]
        rfl
      · cases hev
    · -- call
      rename_i f args argTypes
      split at hev
      · rename_i g first captured vs hfv hl
        have hfv' := evA_sim hf hg hfv
        have hcall := hcs _ _ _ _ _ hev E w
        have hargs := evL_arr hf hg hl
        have hex : execOp a.eval ⟨dst, .call { callee := .value f, args := args, argTypes := argTypes }, ty, pos, after, guard⟩ = (do let d ← Deferred.ofValue (a.eval f) (args.map a.eval); invoke d.target d.args) := rfl
        unfold Oper.wp
        rw [ha, hex]
        clear ha byR
        generalize a.eval f = z at hfv'
        cases hfv'
        rename_i first' captured' g1 g3 g2 g4
        have hrun : (do let d ← Deferred.ofValue (.func (.func g) first' captured') (args.map a.eval); invoke d.target d.args : Sem Next).run c.P w = (callFunc g (first' ++ args.map a.eval ++ captured')).run c.P w := rfl
        rw [hrun]
        have hall : LR E (first.toList ++ vs ++ captured.toList) (first'.toList ++ (args.map a.eval).toList ++ captured'.toList) := ((LR.of_arr g1 g3).append hargs).append (LR.of_arr g2 g4)
        have harr : (first'.toList ++ (args.map a.eval).toList ++ captured'.toList).toArray = first' ++ args.map a.eval ++ captured' := by
          apply Array.ext'; simp
        have hc2 := hcall _ s hall hfree
        rw [harr] at hc2
        rcases hc2 with ⟨hr, hc3⟩ | ⟨v', w', hr, E', v2, hh, hp, hv⟩
        · rw [hr]
          refine Calls.mono hc3 fun e w' he => ?_
          obtain ⟨E', v', rfl, hp, hv⟩ := he
          exact hK E' v' w' hp hv
        · rw [hr]
          cases hh
          exact hK E' v' w' hp hv
      · cases hev
    · cases hev
end
end Go.Abs
/- Abs15: regions in the text's order, and what a region hands on. Conditions: none. -/
namespace Go.Abs
theorem FR.put {E : Env} {n : Nat} {fr fr' : AFrame} {a : Act} {dst : Option Tmp} {v v' : Value} (hf : FR E n fr a.tmps) (hv : VR E v v') (hp : putA n fr dst v = some fr') : FR E n fr' (a.put dst v').tmps := by
  unfold putA at hp
  cases dst with
  | none => cases hp; exact hf
  | some d =>
    simp only at hp
    split at hp
    · rename_i hd
      cases hp
      refine ⟨by simp [Act.put]; exact hf.1, fun t => ?_⟩
      by_cases ht : t = d
      · subst ht
        rw [fget_fset_same]
        have hlt : t < a.tmps.size := Nat.lt_of_lt_of_le hd hf.1
        simp only [Act.put, Array.getD_eq_getD_getElem?]
        rw [Array.getElem?_setIfInBounds_self_of_lt hlt]
        exact hv
      · rw [fget_fset_ne _ _ _ _ ht]
        have := hf.2 t
        simp only [Act.put, Array.getD_eq_getD_getElem?] at this ⊢
        rw [Array.getElem?_setIfInBounds_ne (fun hh => ht hh.symm)]
        exact this
    · cases hp
theorem want_sim {E : Env} {n : Nat} {fr : AFrame} {a : Act} (hf : FR E n fr a.tmps) (ops : Array Oper) (o : Oper) : Region.wanted o (yielded ops a.tmps) = wantA ops fr o := by
  unfold Region.wanted wantA
  cases o.guard with
  | none => rfl
  | some jw =>
    obtain ⟨j, want⟩ := jw
    simp only [yielded]
    cases hd : (ops[j]?).bind (·.dst) with
    | none => rfl
    | some t =>
      simp only [Option.bind_some]
      have h1 := hf.2 t
      rw [Array.getD_eq_getD_getElem?] at h1
      have key : ∀ (x y : Value), VR E x y → (match (some y : Option Value) with | some (.bool b) => some b | _ => none) = (match x with | .bool b => some b | _ => none) := by
        intro x y h; cases h <;> rfl
      cases ht : a.tmps[t]? with
      | none =>
        rw [ht] at h1
        simp only [Option.getD_none] at h1
        have h2 := key _ _ h1
        cases hx : fget fr t <;> simp_all [undef]
      | some y =>
        rw [ht] at h1
        simp only [Option.getD_some] at h1
        have h2 := key _ _ h1
        generalize fget fr t = x at h1 h2 ⊢
        clear key
        cases h1 <;> rfl
section
variable {c : Ctx} {B : Nat} {call : CallF} {n : Nat}
theorem evOps_len (hcl : CallLen call) (ops : Array Oper) : ∀ (l : List Oper) (fr fr' : AFrame) (h h' : AHeap), evOps c call n ops l fr h = some (fr', h') → h.length ≤ h'.length
  | [], fr, fr', h, h', he => by simp only [evOps, Option.some.injEq, Prod.mk.injEq] at he; rw [he.2]; exact Nat.le_refl _
  | o :: l, fr, fr', h, h', he => by
    simp only [evOps] at he
    split at he
    · split at he
      · rename_i v h1 hop
        split at he
        · exact Nat.le_trans (evOp_len hcl hop) (evOps_len hcl ops l _ _ _ _ he)
        · cases he
      · cases he
    · split at he
      · exact evOps_len hcl ops l _ _ _ _ he
      · cases he
theorem Free.left {E : Env} {h h1 h2 : AHeap} (hf : Free E h h2) (hle : h1.length ≤ h2.length) : Free E h h1 := fun id h3 h4 => hf id h3 (Nat.lt_of_lt_of_le h4 hle)
theorem Free.right {G : Nat → Option Nat} {E E' : Env} {h h1 h2 : AHeap} {w w' : World} (hf : Free E h h2) (p : Post G B E E' h h1 w w') : Free E' h1 h2 := fun id h3 h4 => by
  by_cases he : E' id = E id
  · rw [he]; exact hf id (Nat.le_trans p.len h3) h4
  · have := p.new id he; omega
theorem ops_sim (hcl : CallLen call) (hcs : CallSim c B call) (ops : Array Oper) : ∀ (l : List Oper) {E : Env} {fr fr' : AFrame} {h h' : AHeap} {a : Act} {w : World} {Q : Exit → Act → World → Prop}, evOps c call n ops l fr h = some (fr', h') →
    FR E n fr a.tmps → Sim c.G B E h w → Free E h h' →
    (∀ E' a' w', Post c.G B E E' h h' w w' → FR E' n fr' a'.tmps → a'.defers = a.defers → Q .normal a' w') → wpList c.P ops Q l a w
  | [], E, fr, fr', h, h', a, w, Q, he, hf, s, _, hQ => by
    simp only [evOps, Option.some.injEq, Prod.mk.injEq] at he
    obtain ⟨rfl, rfl⟩ := he
    exact hQ E a w (Post.refl s) hf rfl
  | o :: l, E, fr, fr', h, h', a, w, Q, he, hf, s, hfree, hQ => by
    simp only [evOps] at he
    simp only [wpList]
    rw [want_sim hf ops o]
    split at he
    · rename_i hw
      rw [if_pos hw]
      split at he
      · rename_i v h1 hop
        split at he
        · rename_i fr1 hput
          have hle := evOps_len hcl ops l _ _ _ _ he
          refine .inl (op_sim hcs hf s (hfree.left hle) hop rfl fun E' v' w' hp hv => ?_)
          refine ops_sim hcl hcs ops l he (FR.put (hf.mono hp.le) hv hput) hp.sim (hfree.right hp) fun E2 a2 w2 hp2 hf2 hd2 => ?_
          refine hQ E2 a2 w2 (hp.trans hp2) hf2 (hd2.trans ?_)
          cases o.dst <;> rfl
        · cases he
      · cases he
    · rename_i hw
      rw [if_neg hw]
      split at he
      · rename_i fr1 hput
        refine ops_sim hcl hcs ops l he (FR.put hf (VR.undef E) hput) s hfree fun E2 a2 w2 hp2 hf2 hd2 => ?_
        refine hQ E2 a2 w2 hp2 hf2 (hd2.trans ?_)
        cases o.dst <;> rfl
      · cases he
end
end Go.Abs
/- Abs16: a region that draws its order: the evaluator's answer in the text's order is the model's in every order. Conditions: none. -/
namespace Go.Abs
/-! ### the operands alone matter -/
theorem evL_congr {c : Ctx} {f g : AFrame} : ∀ (l : List Operand), (∀ x ∈ l, evA c f x = evA c g x) → evL c f l = evL c g l
  | [], _ => rfl
  | x :: l, h => by
    simp only [evL]
    rw [h x (by simp), evL_congr l (fun y hy => h y (by simp [hy]))]
theorem evParts_congr {c : Ctx} {f g : AFrame} : ∀ (l : List (Nat × Operand)), (∀ x ∈ l.map (·.2), evA c f x = evA c g x) → evParts c f l = evParts c g l
  | [], _ => rfl
  | (i, x) :: l, h => by
    simp only [evParts]
    rw [h x (by simp), evParts_congr l (fun y hy => h y (by simp only [List.map_cons, List.mem_cons]; exact .inr hy))]
theorem purA_congr {c : Ctx} {f g : AFrame} (op : Op) (h : ∀ x ∈ op.operands, evA c f x = evA c g x) : purA c f op = purA c g op := by
  cases op
  case call cl =>
    obtain ⟨callee, args, argTypes⟩ := cl
    cases callee with
    | value v => rfl
    | invoke r m => rfl
    | builtin b =>
      have hl : evL c f args.toList = evL c g args.toList := evL_congr _ fun x hx => h x (by simp [Op.operands, Call.operands]; simpa using hx)
      cases b <;> simp only [purA, hl]
  case makeFunc fn first captured =>
    have h1 : evL c f first.toList = evL c g first.toList := evL_congr _ fun x hx => h x (by simp [Op.operands]; exact .inl (by simpa using hx))
    have h2 : evL c f captured.toList = evL c g captured.toList := evL_congr _ fun x hx => h x (by simp [Op.operands]; exact .inr (by simpa using hx))
    simp only [purA, h1, h2]
  case build t ps =>
    have h1 : evParts c f ps.toList = evParts c g ps.toList := evParts_congr _ fun x hx => h x (by simpa [Op.operands] using hx)
    simp only [purA, h1]
  all_goals first
    | rfl
    | (simp only [Op.operands] at h; simp_all [purA]; done)
    | (simp_all [purA, Op.operands])
theorem evOp_congr {c : Ctx} {call : CallF} {f g : AFrame} (op : Op) (h : ∀ x ∈ op.operands, evA c f x = evA c g x) (hh : AHeap) : evOp c call f op hh = evOp c call g op hh := by
  unfold evOp
  rw [purA_congr op h]
  split
  · rfl
  · rename_i hnp
    clear hnp
    cases op
    case call cl =>
      obtain ⟨callee, args, argTypes⟩ := cl
      have hl : evL c f args.toList = evL c g args.toList := evL_congr _ fun x hx => h x (by simp [Op.operands, Call.operands]; exact .inr (by simpa using hx))
      cases callee with
      | value v =>
        have hv : evA c f v = evA c g v := h v (by simp [Op.operands, Call.operands])
        simp only [hl, hv]
      | invoke r m => rfl
      | builtin b => cases b <;> simp only [hl]
    case buildSlice t l ps =>
      have h1 : evParts c f ps.toList = evParts c g ps.toList := evParts_congr _ fun x hx => h x (by simpa [Op.operands] using hx)
      simp only [h1]
    case slice t x lo hi mx =>
      have h1 : evA c f x = evA c g x := h x (by simp [Op.operands])
      have h2 : evL c f lo.toList = evL c g lo.toList := evL_congr _ fun y hy => h y (by cases lo <;> simp_all [Op.operands])
      have h3 : evL c f hi.toList = evL c g hi.toList := evL_congr _ fun y hy => h y (by cases hi <;> simp_all [Op.operands])
      cases mx with
      | some m => rfl
      | none => simp only [h1, h2, h3]
    case next x b =>
      have h1 : evA c f x = evA c g x := h x (by simp [Op.operands])
      cases b with
      | false => rfl
      | true => simp only [h1]
    all_goals first
      | rfl
      | (simp_all [Op.operands])
/-! ### the run in the text's order -/
structure Trace (c : Ctx) (call : CallF) (n : Nat) (ops : Array Oper) (mt : Nat → AFrame → AHeap → AHeap → Bool) (F : Nat → AFrame) (H : Nat → AHeap) (V : Nat → Value) : Prop where
  step : ∀ (i : Nat) (o : Oper), ops[i]? = some o → putA n (F i) o.dst (V i) = some (F (i + 1)) ∧
    ((wantA ops (F i) o = true ∧ evOp c call (F i) o.op (H i) = some (V i, H (i + 1)) ∧ (pureOp o.op || extOp o.op || mt i (F i) (H i) (H (i + 1)) || decide ((H (i + 1)).take (H i).length = H i)) = true) ∨
     (wantA ops (F i) o = false ∧ V i = undef ∧ H (i + 1) = H i))
theorem trace_of {c : Ctx} {call : CallF} {n : Nat} (ops : Array Oper) (mt : Nat → AFrame → AHeap → AHeap → Bool) : ∀ (l : List Oper) (k : Nat) (fr fr' : AFrame) (h h' : AHeap), evDraw c call n ops mt l k fr h = some (fr', h') →
    ∃ (F : Nat → AFrame) (H : Nat → AHeap) (V : Nat → Value), F 0 = fr ∧ H 0 = h ∧ F l.length = fr' ∧ H l.length = h' ∧
      ∀ (i : Nat) (o : Oper), l[i]? = some o → putA n (F i) o.dst (V i) = some (F (i + 1)) ∧
        ((wantA ops (F i) o = true ∧ evOp c call (F i) o.op (H i) = some (V i, H (i + 1)) ∧ (pureOp o.op || extOp o.op || mt (k + i) (F i) (H i) (H (i + 1)) || decide ((H (i + 1)).take (H i).length = H i)) = true) ∨
         (wantA ops (F i) o = false ∧ V i = undef ∧ H (i + 1) = H i))
  | [], k, fr, fr', h, h', he => by
    simp only [evDraw, Option.some.injEq, Prod.mk.injEq] at he
    exact ⟨fun _ => fr, fun _ => h, fun _ => undef, rfl, rfl, he.1, he.2, by simp⟩
  | o :: l, k, fr, fr', h, h', he => by
    have build : ∀ (v : Value) (fr1 : AFrame) (h1 : AHeap), evDraw c call n ops mt l (k + 1) fr1 h1 = some (fr', h') → putA n fr o.dst v = some fr1 →
        ((wantA ops fr o = true ∧ evOp c call fr o.op h = some (v, h1) ∧ (pureOp o.op || extOp o.op || mt k fr h h1 || decide (h1.take h.length = h)) = true) ∨ (wantA ops fr o = false ∧ v = undef ∧ h1 = h)) →
        ∃ (F : Nat → AFrame) (H : Nat → AHeap) (V : Nat → Value), F 0 = fr ∧ H 0 = h ∧ F (o :: l).length = fr' ∧ H (o :: l).length = h' ∧
          ∀ (i : Nat) (o' : Oper), (o :: l)[i]? = some o' → putA n (F i) o'.dst (V i) = some (F (i + 1)) ∧
            ((wantA ops (F i) o' = true ∧ evOp c call (F i) o'.op (H i) = some (V i, H (i + 1)) ∧ (pureOp o'.op || extOp o'.op || mt (k + i) (F i) (H i) (H (i + 1)) || decide ((H (i + 1)).take (H i).length = H i)) = true) ∨
             (wantA ops (F i) o' = false ∧ V i = undef ∧ H (i + 1) = H i)) := by
      intro v fr1 h1 hr hp hst
      obtain ⟨F, H, V, f0, h0, fl, hl, hs⟩ := trace_of ops mt l (k + 1) fr1 fr' h1 h' hr
      refine ⟨fun i => match i with | 0 => fr | i + 1 => F i, fun i => match i with | 0 => h | i + 1 => H i, fun i => match i with | 0 => v | i + 1 => V i, rfl, rfl, fl, hl, ?_⟩
      intro i o' hi
      cases i with
      | zero =>
        simp only [List.getElem?_cons_zero, Option.some.injEq] at hi
        subst hi
        simp only [f0, h0, Nat.add_zero]
        exact ⟨hp, hst⟩
      | succ i =>
        have := hs i o' (by simpa using hi)
        rw [Nat.add_assoc, Nat.add_comm 1 i] at this
        exact this
    simp only [evDraw] at he
    split at he
    · rename_i hw
      split at he
      · rename_i v h1 hop
        split at he
        · rename_i hq
          split at he
          · rename_i fr1 hp
            exact build v fr1 h1 he hp (.inl ⟨hw, hop, hq⟩)
          · cases he
        · cases he
      · cases he
    · rename_i hw
      split at he
      · rename_i fr1 hp
        exact build undef fr1 h he hp (.inr ⟨by simpa using hw, rfl, rfl⟩)
      · cases he
theorem evDraw_len {c : Ctx} {call : CallF} {n : Nat} (hcl : CallLen call) (ops : Array Oper) (mt : Nat → AFrame → AHeap → AHeap → Bool) : ∀ (l : List Oper) (k : Nat) (fr fr' : AFrame) (h h' : AHeap), evDraw c call n ops mt l k fr h = some (fr', h') → h.length ≤ h'.length
  | [], k, fr, fr', h, h', he => by simp only [evDraw, Option.some.injEq, Prod.mk.injEq] at he; rw [he.2]; exact Nat.le_refl _
  | o :: l, k, fr, fr', h, h', he => by
    simp only [evDraw] at he
    split at he
    · split at he
      · rename_i v h1 hop
        split at he
        · split at he
          · exact Nat.le_trans (evOp_len hcl hop) (evDraw_len hcl ops mt l _ _ _ _ _ he)
          · cases he
        · cases he
      · cases he
    · split at he
      · exact evDraw_len hcl ops mt l _ _ _ _ _ he
      · cases he
/-! ### what surely comes ahead -/
theorem anc_prop (ops : Array Oper) (S : Nat → Prop) (hS : ∀ (j : Nat) (o : Oper), ops[j]? = some o → S j → ∀ e ∈ o.after, Region.binds .any e = true → S e.on) : ∀ (l : List Oper) (acc : List (List Nat)),
    (∀ (j : Nat), l[j]? = ops[acc.length + j]?) → (∀ j, ∀ a ∈ acc.getD j [], S j → S a) → ∀ j, ∀ a ∈ (ancA l acc).getD j [], S j → S a
  | [], acc, _, h => h
  | o :: l, acc, hl, h => by
    simp only [ancA]
    refine anc_prop ops S hS l _ (fun j => by have := hl (j + 1); simp only [List.getElem?_cons_succ] at this; rw [this]; simp [Nat.add_assoc, Nat.add_comm 1 j]) ?_
    intro j a ha hj
    by_cases hlt : j < acc.length
    · rw [List.getD_eq_getElem?_getD, List.getElem?_append_left hlt, ← List.getD_eq_getElem?_getD] at ha
      exact h j a ha hj
    · by_cases heq : j = acc.length
      · subst heq
        rw [List.getD_eq_getElem?_getD, List.getElem?_append_right (Nat.le_refl _)] at ha
        simp only [Nat.sub_self, List.getElem?_cons_zero, Option.getD_some, List.mem_flatMap, List.mem_filter, List.mem_cons] at ha
        obtain ⟨e, ⟨he1, he2⟩, ha⟩ := ha
        have ho : ops[acc.length]? = some o := by have := hl 0; simpa using this.symm
        have hon : S e.on := hS _ o ho hj e (by simpa using he1) he2
        rcases ha with rfl | ha
        · exact hon
        · exact h _ a ha hon
      · rw [List.getD_eq_getElem?_getD, List.getElem?_eq_none (by simp; omega)] at ha
        simp at ha
end Go.Abs
/- Abs18: a region that draws its order: what is carried from operation to operation. Conditions: none. -/
namespace Go.Abs
structure PN (G : Nat → Option Nat) (B : Nat) (E E' : Env) (h h' : AHeap) (w w' : World) : Prop where
  le : E.le E'
  sim : Sim G B E' h' w'
  os : w'.os = w.os
  tape : w'.tape = w.tape
  output : w'.output = w.output
  size : w.heap.size ≤ w'.heap.size
  frame : ∀ x, x < w.heap.size → ¬ Wr E h x → w'.heap[x]? = w.heap[x]?
  wr : ∀ x, Wr E' h' x → Wr E h x ∨ w.heap.size ≤ x
  fresh : ∀ id e, E' id = some e → E id = none → Wr E h e.blk ∨ w.heap.size ≤ e.blk
section
variable {G : Nat → Option Nat} {B : Nat} {E E1 E2 : Env} {h h1 h2 : AHeap} {w w1 w2 : World}
theorem PN.of_post (p : Post G B E E1 h h1 w w1) : PN G B E E1 h h1 w w1 := ⟨p.le, p.sim, p.os, p.tape, p.output, p.size, p.frame, p.wr, p.fresh⟩
theorem PN.step (p : PN G B E E1 h h1 w w1) (q : PN G B E1 E2 h1 h2 w1 w2) : PN G B E E2 h h2 w w2 := by
  refine ⟨p.le.trans q.le, q.sim, q.os.trans p.os, q.tape.trans p.tape, q.output.trans p.output, Nat.le_trans p.size q.size, fun x hx hw => ?_, fun x hx => ?_, fun id e h1 h2 => ?_⟩
  · rw [q.frame x (Nat.lt_of_lt_of_le hx p.size) (fun h1 => ?_), p.frame x hx hw]
    rcases p.wr x h1 with h2 | h2
    · exact hw h2
    · omega
  · rcases q.wr x hx with h1 | h1
    · exact p.wr x h1
    · exact .inr (Nat.le_trans p.size h1)
  · cases h3 : E1 id with
    | none =>
      rcases q.fresh id e h1 h3 with h4 | h4
      · exact p.wr _ h4
      · exact .inr (Nat.le_trans p.size h4)
    | some e1 =>
      have := q.le id e1 h3
      rw [h1] at this; cases this
      exact p.fresh id e h3 h2
/-- A longer heap whose further blocks have no place yet. -/
theorem Sim.longer {t : AHeap} (s : Sim G B E h w) (hn : ∀ id, h.length ≤ id → id < (h ++ t).length → E id = none) : Sim G B E (h ++ t) w := by
  have key : ∀ (id : Nat) o e, (h ++ t)[id]? = some (some o) → E id = some e → h[id]? = some (some o) := by
    intro id o e h1 h2
    by_cases hlt : id < h.length
    · rwa [List.getElem?_append_left hlt] at h1
    · have := hn id (by omega) (List.getElem?_eq_some_iff.1 h1).1
      rw [h2] at this; cases this
  exact ⟨fun id o e h1 h2 => s.obj id o e (key id o e h1 h2) h2, fun id o e h1 h2 => s.low id o e (key id o e h1 h2) h2, fun i j oi oj ei ej hij h1 h2 h3 h4 => s.apart i j oi oj ei ej hij (key i oi ei h1 h3) (key j oj ej h2 h4) h3 h4, s.base, s.glob⟩
theorem Sim.shorter {t : AHeap} (s : Sim G B E (h ++ t) w) : Sim G B E h w := by
  have key : ∀ (id : Nat) (o : AObj), h[id]? = some (some o) → (h ++ t)[id]? = some (some o) := fun id o h1 => by
    rw [List.getElem?_append_left (List.getElem?_eq_some_iff.1 h1).1]; exact h1
  exact ⟨fun id o e h1 h2 => s.obj id o e (key id o h1) h2, fun id o e h1 h2 => s.low id o e (key id o h1) h2, fun i j oi oj ei ej hij h1 h2 h3 h4 => s.apart i j oi oj ei ej hij (key i oi h1) (key j oj h2) h3 h4, s.base, s.glob⟩
theorem Wr.longer {t : AHeap} {x : Nat} (hw : Wr E h x) : Wr E (h ++ t) x :=
  let ⟨id, o, e, h1, h2⟩ := hw
  ⟨id, o, e, by rw [List.getElem?_append_left (List.getElem?_eq_some_iff.1 h1).1]; exact h1, h2⟩
theorem Wr.shorter {t : AHeap} {x : Nat} (hn : ∀ id, h.length ≤ id → id < (h ++ t).length → E id = none) (hw : Wr E (h ++ t) x) : Wr E h x := by
  obtain ⟨id, o, e, h1, h2, h3, h4⟩ := hw
  by_cases hlt : id < h.length
  · rw [List.getElem?_append_left hlt] at h1; exact ⟨id, o, e, h1, h2, h3, h4⟩
  · have := hn id (by omega) (List.getElem?_eq_some_iff.1 h1).1
    rw [h3] at this; cases this
theorem PN.longer {t : AHeap} (p : PN G B E E1 h h1 w w1) (hn : ∀ id, h1.length ≤ id → id < (h1 ++ t).length → E1 id = none) : PN G B E E1 h (h1 ++ t) w w1 :=
  ⟨p.le, p.sim.longer hn, p.os, p.tape, p.output, p.size, p.frame, fun x hx => p.wr x (hx.shorter hn), p.fresh⟩
/-- An operation that only adds blocks, where further blocks (of operations that stand behind it in the text) lie already. -/
theorem PN.insert {s1 s2 : AHeap} (sq : Sim G B E (h ++ s1 ++ s2) w) (p : Post G B E E1 h (h ++ s1) w w1) : PN G B E E1 (h ++ s1 ++ s2) (h ++ s1 ++ s2) w w1 := by
  have hold : ∀ id e, (h ++ s1).length ≤ id → E1 id = some e → E id = some e := fun id e hge he => by
    by_cases hh : E1 id = E id
    · rw [← hh]; exact he
    · have := (p.new id hh).2; omega
  have hfirst : ∀ (id : Nat), id < (h ++ s1).length → (h ++ s1 ++ s2)[id]? = (h ++ s1)[id]? := fun id hlt => List.getElem?_append_left hlt
  have hwr : ∀ x, Wr E h x → Wr E (h ++ s1 ++ s2) x := fun x hx => hx.longer.longer
  have hkeep : ∀ (id : Nat) o e, (h ++ s1).length ≤ id → (h ++ s1 ++ s2)[id]? = some (some o) → E id = some e → w1.heap[e.blk]? = w.heap[e.blk]? := fun id o e hge h1 h2 => by
    refine p.frame _ (sq.obj id o e h1 h2).lt ?_
    rintro ⟨id', o', e', g1, g2, g3, g4⟩
    have hlt := (List.getElem?_eq_some_iff.1 g1).1
    have hne : id' ≠ id := by intro hh; subst hh; simp at hge; omega
    refine sq.apart id' id o' o e' e hne ?_ h1 g3 h2 g2 g4
    rw [List.append_assoc, List.getElem?_append_left hlt]; exact g1
  have fresh2 : ∀ (i j : Nat) oj ei ej, i < (h ++ s1).length → (h ++ s1).length ≤ j → (h ++ s1 ++ s2)[j]? = some (some oj) → E1 i = some ei → E i = none → E j = some ej → ei.blk ≠ ej.blk := by
    intro i j oj ei ej hi hj h2 h3 hn h4 hh
    rcases p.fresh i ei h3 hn with ⟨id', o', e', g1, g2, g3, g4⟩ | h6
    · have hlt := (List.getElem?_eq_some_iff.1 g1).1
      have hne : id' ≠ j := by intro hh; subst hh; simp at hj; omega
      refine sq.apart id' j o' oj e' ej hne ?_ h2 g3 h4 g2 (g4.trans hh)
      rw [List.append_assoc, List.getElem?_append_left hlt]; exact g1
    · have := (sq.obj j oj ej h2 h4).lt
      omega
  refine ⟨p.le, ⟨?_, ?_, ?_, p.sim.base, p.sim.glob⟩, p.os, p.tape, p.output, p.size, ?_, ?_, ?_⟩
  · intro id o e h1 h2
    by_cases hlt : id < (h ++ s1).length
    · rw [hfirst id hlt] at h1; exact p.sim.obj id o e h1 h2
    · have h3 := hold id e (by omega) h2
      exact (sq.obj id o e h1 h3).mono p.le (hkeep id o e (by omega) h1 h3)
  · intro id o e h1 h2 h3
    by_cases hlt : id < (h ++ s1).length
    · rw [hfirst id hlt] at h1; exact p.sim.low id o e h1 h2 h3
    · exact sq.low id o e h1 (hold id e (by omega) h2) h3
  · intro i j oi oj ei ej hij h1 h2 h3 h4 h5
    by_cases hi : i < (h ++ s1).length
    · by_cases hj : j < (h ++ s1).length
      · rw [hfirst i hi] at h1; rw [hfirst j hj] at h2; exact p.sim.apart i j oi oj ei ej hij h1 h2 h3 h4 h5
      · have h6 := hold j ej (by omega) h4
        cases h7 : E i with
        | none => exact fresh2 i j oj ei ej hi (by omega) h2 h3 h7 h6
        | some e' =>
          have := p.le i e' h7; rw [h3] at this; cases this
          exact sq.apart i j oi oj ei ej hij h1 h2 h7 h6 h5
    · have h6 := hold i ei (by omega) h3
      by_cases hj : j < (h ++ s1).length
      · cases h7 : E j with
        | none => exact fun hh => fresh2 j i oi ej ei hj (by omega) h1 h4 h7 h6 hh.symm
        | some e' =>
          have := p.le j e' h7; rw [h4] at this; cases this
          exact sq.apart i j oi oj ei ej hij h1 h2 h6 h7 h5
      · exact sq.apart i j oi oj ei ej hij h1 h2 h6 (hold j ej (by omega) h4) h5
  · intro x hx hw
    exact p.frame x hx (fun hh => hw (hwr x hh))
  · rintro x ⟨id, o, e, h1, h2, h3, h4⟩
    by_cases hlt : id < (h ++ s1).length
    · rw [hfirst id hlt] at h1
      rcases p.wr x ⟨id, o, e, h1, h2, h3, h4⟩ with h5 | h5
      · exact .inl (hwr x h5)
      · exact .inr h5
    · exact .inl ⟨id, o, e, h1, h2, hold id e (by omega) h3, h4⟩
  · intro id e h1 h2
    rcases p.fresh id e h1 h2 with h3 | h3
    · exact .inl (hwr _ h3)
    · exact .inr h3
end
/-! ### the frame, as an operation sees it -/
def pick (L : List Nat) (f : AFrame) : AFrame := L.foldl (fun acc t => fset acc t (fget f t)) []
theorem pick_get (f : AFrame) : ∀ (L : List Nat) (acc : AFrame) (t : Nat), fget (L.foldl (fun acc t => fset acc t (fget f t)) acc) t = if t ∈ L then fget f t else fget acc t
  | [], acc, t => by simp
  | u :: L, acc, t => by
    simp only [List.foldl_cons]
    rw [pick_get f L]
    by_cases h1 : t ∈ L
    · rw [if_pos h1, if_pos (by simp [h1])]
    · rw [if_neg h1]
      by_cases h2 : t = u
      · subst h2; rw [fget_fset_same, if_pos (by simp)]
      · rw [fget_fset_ne _ _ _ _ h2, if_neg (by simp [h1, h2])]
def pickAct (L : List Nat) (a : Act) : Act := { a with tmps := (Array.range a.tmps.size).map fun t => if t ∈ L then a.tmps.getD t undef else undef }
theorem pickAct_get (L : List Nat) (a : Act) (t : Nat) : (pickAct L a).tmps.getD t undef = if t ∈ L then a.tmps.getD t undef else undef := by
  simp only [pickAct, Array.getD_eq_getD_getElem?]
  by_cases ht : t < a.tmps.size
  · simp only [Array.getElem?_map, Array.getElem?_range, ht, if_true, Option.map_some, Option.getD_some]
  · rw [Array.getElem?_eq_none (by simp; omega), Array.getElem?_eq_none (by omega)]
    simp
theorem pickAct_get? (L : List Nat) (a : Act) (t : Nat) (ht : t ∈ L) : (pickAct L a).tmps[t]? = a.tmps[t]? := by
  simp only [pickAct]
  by_cases h : t < a.tmps.size
  · simp only [Array.getElem?_map, Array.getElem?_range, h, if_true, Option.map_some, ht]
    simp [h]
  · rw [Array.getElem?_eq_none (by simp; omega), Array.getElem?_eq_none (by omega)]
theorem pick_FR {E : Env} {n : Nat} {L : List Nat} {f : AFrame} {a : Act} (hn : n ≤ a.tmps.size) (h : ∀ t, t ∈ L → VR E (fget f t) (a.tmps.getD t undef)) : FR E n (pick L f) (pickAct L a).tmps := by
  refine ⟨by simpa [pickAct] using hn, fun t => ?_⟩
  rw [pickAct_get, pick, pick_get]
  split
  · rename_i ht; exact h t ht
  · rw [fget_nil]; exact VR.undef E
theorem evA_pick {c : Ctx} {L : List Nat} {f : AFrame} {x : Operand} (h : ∀ t, x = .tmp t → t ∈ L) : evA c (pick L f) x = evA c f x := by
  cases x with
  | tmp t => simp only [evA, pick, pick_get, if_pos (h t rfl)]
  | _ => rfl
theorem eval_pick {L : List Nat} {a : Act} {x : Operand} (h : ∀ t, x = .tmp t → t ∈ L) : (pickAct L a).eval x = a.eval x := by
  cases x with
  | tmp t => simp only [Act.eval, pickAct_get, if_pos (h t rfl)]
  | _ => rfl
theorem looks_op {ops : Array Oper} {o : Oper} {t : Nat} (h : Operand.tmp t ∈ o.op.operands) : t ∈ o.looksAt ops :=
  List.mem_append_left _ (List.mem_filterMap.2 ⟨.tmp t, by simpa using h, rfl⟩)
theorem want_pick {ops : Array Oper} {o : Oper} {f : AFrame} : wantA ops (pick (o.looksAt ops) f) o = wantA ops f o := by
  unfold wantA
  cases hg : o.guard with
  | none => rfl
  | some jw =>
    obtain ⟨j, want⟩ := jw
    simp only
    cases hd : (ops[j]?).bind (·.dst) with
    | none => rfl
    | some t =>
      have ht : t ∈ o.looksAt ops := by simp [Oper.looksAt, hg, hd]
      simp only [pick, pick_get, if_pos ht]
theorem wanted_pick {ops : Array Oper} {o : Oper} {a : Act} : Region.wanted o (yielded ops (pickAct (o.looksAt ops) a).tmps) = Region.wanted o (yielded ops a.tmps) := by
  unfold Region.wanted
  cases hg : o.guard with
  | none => rfl
  | some jw =>
    obtain ⟨j, want⟩ := jw
    simp only [yielded]
    cases hd : (ops[j]?).bind (·.dst) with
    | none => rfl
    | some t =>
      have ht : t ∈ o.looksAt ops := by simp [Oper.looksAt, hg, hd]
      simp only [Option.bind_some, pickAct_get? _ _ _ ht]
end Go.Abs
/- Abs19: a region that draws its order: the theorem. Conditions: none. -/
namespace Go.Abs
section
variable {c : Ctx} {B : Nat} {call : CallF} {n : Nat} {ops : Array Oper} {F : Nat → AFrame} {H : Nat → AHeap} {V : Nat → Value}
def mtA (ops : Array Oper) : Nat → Bool := mutA ops (ancA ops.toList [])
/-- It does more than add blocks. -/
def Mu (H : Nat → AHeap) (i : Nat) : Prop := ¬ ∃ t, H (i + 1) = H i ++ t
theorem at_some {i : Nat} (hi : i < ops.size) : ∃ o, ops[i]? = some o := ⟨_, Array.getElem?_eq_getElem hi⟩
theorem chk_at (hchk : chkA ops = true) {i : Nat} {o : Oper} (ho : ops[i]? = some o) :
    (pureOp o.op || extOp o.op || callOp o.op || mtA ops i) = true ∧ (∀ cs b, o.op ≠ .select cs b) ∧ (∀ e ∈ o.after, Region.binds .any e = true → e.on < i) ∧
      (∀ (j : Nat) p, j < i → ops[j]? = some p → p.apart ops o = true ∨ j ∈ (ancA ops.toList []).getD i []) := by
  have hi : i < ops.size := (Array.getElem?_eq_some_iff.1 ho).1
  have h := List.all_eq_true.1 hchk i (List.mem_range.2 hi)
  simp only [chkOne, ho, Bool.and_eq_true] at h
  obtain ⟨⟨⟨h1, h2⟩, h3⟩, h4⟩ := h
  refine ⟨h1, (fun cs b hh => by rw [hh] at h2; cases h2), fun e he hb => ?_, fun j p hj hp => ?_⟩
  · have := Array.all_eq_true_iff_forall_mem.1 h3 e he
    simpa [hb] using this
  · have := List.all_eq_true.1 h4 j (List.mem_range.2 hj)
    simp only [hp, Bool.or_eq_true, List.contains_iff_mem] at this
    exact this
theorem mt_at {i j : Nat} (h : mtA ops i = true) (hj : j < ops.size) (hne : j ≠ i) (hp : pureAt ops j = false) :
    (j < i → j ∈ (ancA ops.toList []).getD i []) ∧ (i < j → i ∈ (ancA ops.toList []).getD j []) := by
  have := List.all_eq_true.1 h j (List.mem_range.2 hj)
  simp only [Bool.or_eq_true, beq_iff_eq, hne, false_or, hp, Bool.false_eq_true] at this
  split at this
  · rename_i hlt
    exact ⟨fun _ => by simpa using this, fun h => by omega⟩
  · rename_i hlt
    exact ⟨fun h => absurd h hlt, fun _ => by simpa using this⟩
/-- A load j that is not ordered against the step i, which leaves what it reads as it was. -/
def FlexJ (c : Ctx) (ops : Array Oper) (F : Nat → AFrame) (H : Nat → AHeap) (j i : Nat) : Prop :=
  looksFree ops j i = true ∧ ∃ o t x, ops[j]? = some o ∧ o.op = .load t x ∧ (wantA ops (F i) o = false ∨ ∃ a, evA c (F i) x = some a ∧ loadA c.P (H i) t a = loadA c.P (H (i + 1)) t a)
theorem mu_ord (hT : Trace c call n ops (mtF c ops) F H V) {i : Nat} (hi : i < ops.size) (hmu : Mu H i) : pureAt ops i = false ∧ ∀ j, j < ops.size → j ≠ i → pureAt ops j = false →
    ((j < i → j ∈ (ancA ops.toList []).getD i []) ∧ (i < j → i ∈ (ancA ops.toList []).getD j [])) ∨ (j < i ∧ FlexJ c ops F H j i) := by
  obtain ⟨o, ho⟩ := at_some hi
  obtain ⟨hp, hs⟩ := hT.step i o ho
  rcases hs with ⟨h1, h2, h3⟩ | ⟨h1, h2, h3⟩
  · have hno : (pureOp o.op || extOp o.op) = false := by
      cases hh : (pureOp o.op || extOp o.op) with
      | false => rfl
      | true => exact absurd (evOp_ext hh h2) hmu
    simp only [Bool.or_eq_false_iff] at hno
    simp only [hno.1, hno.2, Bool.false_or, Bool.or_eq_true, decide_eq_true_eq] at h3
    refine ⟨by simp [pureAt, ho, hno.1], fun j hj hne hpj => ?_⟩
    rcases h3 with h3 | h3
    · simp only [mtF, Bool.or_eq_true] at h3
      rcases h3 with h3 | h3
      · exact .inl (mt_at h3 hj hne hpj)
      · have h4 := List.all_eq_true.1 h3 j (List.mem_range.2 hj)
        simp only [Bool.or_eq_true, beq_iff_eq, hne, false_or, hpj, Bool.false_eq_true] at h4
        rcases h4 with h4 | h4
        · left
          split at h4
          · rename_i hlt
            exact ⟨fun _ => by simpa using h4, fun h => by omega⟩
          · rename_i hlt
            exact ⟨fun h => absurd h hlt, fun _ => by simpa using h4⟩
        · right
          simp only [Bool.and_eq_true, decide_eq_true_eq] at h4
          obtain ⟨⟨h5, h6⟩, h7⟩ := h4
          obtain ⟨p, hp⟩ := at_some hj
          refine ⟨h5, h6, p, ?_⟩
          rw [hp] at h7
          simp only at h7
          split at h7
          · rename_i t x hop
            refine ⟨t, x, hp, hop, ?_⟩
            simp only [Bool.or_eq_true, Bool.not_eq_true'] at h7
            rcases h7 with h7 | h7
            · exact .inl h7
            · split at h7
              · rename_i a ha
                exact .inr ⟨a, ha, of_decide_eq_true h7⟩
              · cases h7
          · cases h7
    · exact absurd ⟨(H (i + 1)).drop (H i).length, by conv => lhs; rw [← List.take_append_drop (H i).length (H (i + 1)), h3]⟩ hmu
  · exact absurd ⟨[], by simp [h3]⟩ hmu
theorem turn_pure (hT : Trace c call n ops (mtF c ops) F H V) {i : Nat} (hi : i < ops.size) (hne : H (i + 1) ≠ H i) : pureAt ops i = false := by
  obtain ⟨o, ho⟩ := at_some hi
  obtain ⟨hp, hs⟩ := hT.step i o ho
  rcases hs with ⟨h1, h2, h3⟩ | ⟨h1, h2, h3⟩
  · cases hh : pureOp o.op with
    | false => simp [pureAt, ho, hh]
    | true =>
      unfold evOp at h2
      rw [if_pos hh] at h2
      simp only [Option.map_eq_some_iff] at h2
      obtain ⟨x, _, hx⟩ := h2
      simp only [Prod.mk.injEq] at hx
      exact absurd hx.2.symm hne
  · exact absurd h3 hne
theorem len_step (hcl : CallLen call) (hT : Trace c call n ops (mtF c ops) F H V) {i : Nat} (hi : i < ops.size) : (H i).length ≤ (H (i + 1)).length := by
  obtain ⟨o, ho⟩ := at_some hi
  obtain ⟨hp, hs⟩ := hT.step i o ho
  rcases hs with ⟨h1, h2, h3⟩ | ⟨h1, h2, h3⟩
  · exact evOp_len hcl h2
  · rw [h3]; exact Nat.le_refl _
theorem len_mono (hcl : CallLen call) (hT : Trace c call n ops (mtF c ops) F H V) {i : Nat} : ∀ d, i + d ≤ ops.size → (H i).length ≤ (H (i + d)).length
  | 0, _ => Nat.le_refl _
  | d + 1, h => Nat.le_trans (len_mono hcl hT d (by omega)) (len_step hcl hT (i := i + d) (by omega))
theorem len_le (hcl : CallLen call) (hT : Trace c call n ops (mtF c ops) F H V) {i j : Nat} (hij : i ≤ j) (hj : j ≤ ops.size) : (H i).length ≤ (H j).length := by
  have := len_mono hcl hT (i := i) (j - i) (by omega)
  rwa [show i + (j - i) = j by omega] at this
theorem chain {i : Nat} : ∀ d, (∀ k, i ≤ k → k < i + d → ¬ Mu H k) → ∃ t, H (i + d) = H i ++ t
  | 0, _ => ⟨[], by simp⟩
  | d + 1, h => by
    obtain ⟨t, ht⟩ := chain d (fun k h1 h2 => h k h1 (by omega))
    have := h (i + d) (by omega) (by omega)
    unfold Mu at this
    have := Classical.not_not.1 this
    obtain ⟨t2, ht2⟩ := this
    exact ⟨t ++ t2, by rw [← Nat.add_assoc, ht2, ht, List.append_assoc]⟩
theorem chain_le {i j : Nat} (hij : i ≤ j) (h : ∀ k, i ≤ k → k < j → ¬ Mu H k) : ∃ t, H j = H i ++ t := by
  obtain ⟨t, ht⟩ := chain (H := H) (i := i) (j - i) (fun k h1 h2 => h k h1 (by omega))
  exact ⟨t, by rw [← ht]; congr 1; omega⟩
theorem next_mu (m : Nat) : ∀ (d i : Nat), i + d = m → ∃ q, i ≤ q ∧ q ≤ m ∧ (∀ k, i ≤ k → k < q → ¬ Mu H k) ∧ (q < m → Mu H q)
  | 0, i, h => ⟨m, by omega, Nat.le_refl _, fun k h1 h2 => by omega, fun h => by omega⟩
  | d + 1, i, h => by
    by_cases hm : Mu H i
    · exact ⟨i, Nat.le_refl _, by omega, fun k h1 h2 => by omega, fun _ => hm⟩
    · obtain ⟨q, h1, h2, h3, h4⟩ := next_mu m d (i + 1) (by omega)
      refine ⟨q, by omega, h2, fun k h5 h6 => ?_, h4⟩
      by_cases hk : k = i
      · subst hk; exact hm
      · exact h3 k (by omega) h6
/-- What the temporaries hold: of the operations that have come up, the last in the text that writes there. -/
def Fv (ops : Array Oper) (fr : AFrame) (V : Nat → Value) (listed : Array Bool) : Nat → Nat → Value
  | 0, t => fget fr t
  | k + 1, t => if listed.getD k false = true ∧ (ops[k]?).bind (·.dst) = some t then V k else Fv ops fr V listed k t
theorem put_get {n : Nat} {fr fr' : AFrame} {dst : Option Tmp} {v : Value} (h : putA n fr dst v = some fr') (t : Nat) : fget fr' t = if dst = some t then v else fget fr t := by
  unfold putA at h
  cases dst with
  | none => simp at h; subst h; simp
  | some d =>
    simp only at h
    split at h
    · cases h
      by_cases ht : t = d
      · subst ht; rw [fget_fset_same, if_pos rfl]
      · rw [fget_fset_ne _ _ _ _ ht, if_neg (by simp; exact fun hh => ht hh.symm)]
    · cases h
/-- An operation that writes what another one looks at, or writes, is ordered against it. -/
theorem apart_of (x y : Oper) {t : Nat} (hx : x.dst = some t) (hy : t ∈ y.looksAt ops ∨ y.dst = some t) : x.apart ops y = false ∧ y.apart ops x = false := by
  constructor
  · cases hh : x.apart ops y with
    | false => rfl
    | true =>
      obtain ⟨h1, h2, h3⟩ := Oper.apart_spec hh
      rcases hy with hy | hy
      · exact absurd hy (h1 t hx)
      · exact absurd hy (h2 t hx)
  · cases hh : y.apart ops x with
    | false => rfl
    | true =>
      obtain ⟨h1, h2, h3⟩ := Oper.apart_spec hh
      rcases hy with hy | hy
      · exact absurd hy (h3 t hx)
      · exact absurd hx (h2 t hy)
/-- The operations that have come up are closed under what comes ahead. -/
def DC (ops : Array Oper) (listed : Array Bool) : Prop := ∀ (j : Nat) (o : Oper), ops[j]? = some o → listed.getD j false = true → ∀ e ∈ o.after, Region.binds .any e = true → listed.getD e.on false = true
theorem dc_anc {listed : Array Bool} (h : DC ops listed) {j a : Nat} (hj : listed.getD j false = true) (ha : a ∈ (ancA ops.toList []).getD j []) : listed.getD a false = true :=
  anc_prop ops (fun i => listed.getD i false = true) h ops.toList [] (fun i => by simp) (fun i a ha => by simp at ha) j a ha hj
theorem dc_anc_ready {listed : Array Bool} (h : DC ops listed) {i a : Nat} {o : Oper} (ho : ops[i]? = some o) (hr : ∀ e ∈ o.after, Region.binds .any e = true → listed.getD e.on false = true) (ha : a ∈ (ancA ops.toList []).getD i []) : listed.getD a false = true ∨ a = i := by
  refine anc_prop ops (fun j => listed.getD j false = true ∨ j = i) ?_ ops.toList [] (fun i => by simp) (fun i a ha => by simp at ha) i a ha (.inr rfl)
  intro j p hp hj e he hb
  rcases hj with hj | rfl
  · exact .inl (h j p hp hj e he hb)
  · rw [ho] at hp; cases hp; exact .inl (hr e he hb)
end
end Go.Abs
