/- The abstract machine: values over abstract blocks, an evaluator of the model's code in the text's order. Definitions alone. -/
import Derived.Calls
namespace Go.Ab
open Go

/-- A finite map keyed by numbers. -/
inductive Tr (α : Type) where
  | leaf
  | node (l : Tr α) (v : Option α) (r : Tr α)

namespace Tr
variable {α : Type}
def get : Tr α → Nat → Option α
  | .leaf, _ => none
  | .node l v r, n => match n with
    | 0 => v
    | k + 1 => if k % 2 = 0 then l.get (k / 2) else r.get (k / 2)
def sing : Nat → Nat → α → Tr α
  | 0, _, _ => .leaf
  | f + 1, n, x => match n with
    | 0 => .node .leaf (some x) .leaf
    | k + 1 => if k % 2 = 0 then .node (sing f (k / 2) x) none .leaf else .node .leaf none (sing f (k / 2) x)
def set : Tr α → Nat → α → Tr α
  | .leaf, n, x => sing (n + 1) n x
  | .node l v r, n, x => match n with
    | 0 => .node l (some x) r
    | k + 1 => if k % 2 = 0 then .node (l.set (k / 2) x) v r else .node l v (r.set (k / 2) x)
def del : Tr α → Nat → Tr α
  | .leaf, _ => .leaf
  | .node l v r, n => match n with
    | 0 => .node l none r
    | k + 1 => if k % 2 = 0 then .node (l.del (k / 2)) v r else .node l v (r.del (k / 2))
end Tr

/-- Where an abstract block lies: its block, the shift of its cells, the capacity beyond what is known, whether it is a slice without cells, and which then. -/
structure Loc where
  blk : Nat
  sh : Nat := 0
  ex : Nat := 0
  nil : Bool := false
  odd : Option Addr := none

abbrev Beta := Nat → Loc

def renFn (β : Beta) : Fn → Fn
  | .yield l => .yield (β l).blk
  | f => f

def renPtr (β : Beta) : Option Addr → Option Addr
  | none => none
  | some ⟨i, o, _⟩ => some ⟨(β i).blk, o + (β i).sh, none⟩

def renSlice (l : Loc) (o : Nat) (s : Option Nat) (len cap : Nat) : Value :=
  if l.nil then .slice (l.odd.map fun a => a.add (match s with | none => o | some t => if cap = 0 then o else t)) len cap else
  match s with
  | none => .slice (some ⟨l.blk, o + l.sh, none⟩) len cap
  | some t => .slice (some ⟨l.blk, (if cap + l.ex = 0 then o else t) + l.sh, none⟩) len (cap + l.ex)

mutual
/-- The real value of an abstract one. -/
def ren (β : Beta) : Value → Value
  | .bool b => .bool b
  | .int k n => .int k n
  | .float k b => .float k b
  | .complex k a b => .complex k a b
  | .string s => .string s
  | .pointer a => .pointer (renPtr β a)
  | .slice none l c => .slice none l c
  | .slice (some ⟨i, o, s⟩) l c => renSlice (β i) o s l c
  | .map none => .map none
  | .map (some i) => .map (some (β i).blk)
  | .chan r => .chan r
  | .func fn ⟨f⟩ ⟨c⟩ => .func (renFn β fn) ⟨renL β f⟩ ⟨renL β c⟩
  | .nilFunc => .nilFunc
  | .iface t v => .iface t (ren β v)
  | .nilIface => .nilIface
  | .agg ⟨cs⟩ => .agg ⟨renL β cs⟩
  | .tuple ⟨cs⟩ => .tuple ⟨renL β cs⟩
def renL (β : Beta) : List Value → List Value
  | [] => []
  | v :: l => ren β v :: renL β l
end

/-- Which abstract blocks there are: those below n, but for holes. -/
structure Dm where
  H : Nat → Bool
  n : Nat
def Dm.has (d : Dm) (i : Nat) : Bool := Nat.blt i d.n && !d.H i
def Dm.up (d : Dm) (k : Nat) : Dm := ⟨d.H, k⟩
def Dm.none : Dm := ⟨fun _ => true, 0⟩

def blwFn (n : Dm) : Fn → Bool
  | .yield l => n.has l
  | _ => true

mutual
/-- All abstract blocks that a value names are there. -/
def blw (n : Dm) : Value → Bool
  | .pointer (some ⟨i, _, s⟩) => n.has i && s.isNone
  | .slice (some ⟨i, _, _⟩) _ _ => n.has i
  | .map (some i) => n.has i
  | .chan (some _) => false
  | .func fn ⟨f⟩ ⟨c⟩ => blwFn n fn && (blwL n f && blwL n c)
  | .iface _ v => blw n v
  | .agg ⟨cs⟩ => blwL n cs
  | .tuple ⟨cs⟩ => blwL n cs
  | _ => true
def blwL (n : Dm) : List Value → Bool
  | [] => true
  | v :: l => blw n v && blwL n l
end

/-- What an abstract block holds. -/
inductive AObj where
  | cells (ro : Option Bool) (elem : TypeId) (esz : Nat) (cs : List Value)
  | map (es : List (Value × Value)) (clk : Nat)
  | iter (m : Option Nat) (since : Nat) (left : List Value) (cur : Option Value)
  | loop (state : LoopState) (pending : Option Code) (fn : FuncId) (nt : Nat) (slots : List (Nat × Value)) (params : List Tmp) (assign body : Code) (defers : Nat)
  | deferred (ds : Option (List Deferred))

abbrev Mem := Tr AObj
abbrev Slots := List (Nat × Value)

def lk : Slots → Nat → Option Value
  | [], _ => none
  | (t, v) :: l, s => if t = s then some v else lk l s
def put (sl : Slots) (t : Nat) (x : Value) : Slots := (t, x) :: sl
def putO (sl : Slots) (d : Option Tmp) (x : Value) : Slots :=
  match d with
  | none => sl
  | some t => put sl t x

structure AFrame where
  fn : FuncId
  nt : Nat
  slots : Slots
  todo : List Item
  defers : List Deferred := []
  ret : Bool := false
  kind : CallKind := .normal
  round : Option Nat := none

def evO (sl : Slots) : Operand → Option Value
  | .tmp t => lk sl t
  | .const v => if blw Dm.none v then some v else none
  | .global _ => none
  | .func f => some (.func (.func f) #[] #[])

def evs (sl : Slots) : List Operand → Option (List Value)
  | [] => some []
  | x :: l => match evO sl x, evs sl l with
    | some v, some vs => some (v :: vs)
    | _, _ => none

/- types -/
def szOf (P : Program) (t : TypeId) : Option Nat := (P.info? t).map (·.size)
def zeroOf (P : Program) (t : TypeId) : Option Value :=
  match (P.info? t).bind (·.zero) with
  | some z => if blw Dm.none z then some z else none
  | none => none
def aggT (P : Program) (t : TypeId) : Option Bool :=
  match P.underlying t with
  | some (.struct _) | some (.array _ _) => some true
  | some _ => some false
  | none => none

def cellsOf (m : Mem) (i : Nat) : Option (List Value) :=
  match m.get i with
  | some (.cells _ _ _ cs) => some cs
  | _ => none

/-- A block that is surely there (not the nil slice). -/
def liveAt (m : Mem) (i : Nat) : Bool :=
  match m.get i with
  | some (.cells none _ _ _) => true
  | some (.cells (some _) _ _ cs) => decide (0 < cs.length)
  | _ => false

def takeAt (cs : List Value) (off n : Nat) : Option (List Value) :=
  if off + n ≤ cs.length then some ((cs.drop off).take n) else none

def loadA (P : Program) (m : Mem) (t : TypeId) (x : Value) : Option Value :=
  match x with
  | .pointer (some ⟨i, off, none⟩) =>
    match aggT P t, cellsOf m i with
    | some true, some cs => match szOf P t with
      | some sz => match takeAt cs off sz with
        | some l => some (.agg ⟨l⟩)
        | none => none
      | none => none
    | some false, some cs => cs[off]?
    | _, _ => none
  | _ => none

/-- A part of a value's cells. -/
def partA (P : Program) (t : TypeId) (cs : List Value) (off : Nat) : Option Value :=
  match aggT P t with
  | some true => match szOf P t with
    | some sz => some (.agg ⟨(cs.drop off).take sz⟩)
    | none => none
  | some false => cs[off]?
  | none => none

def intA (op : BinOp) (k : IntKind) (a b : Int) : Option Value :=
  match op with
  | .add => some (.int k (k.wrap (a + b)))
  | .sub => some (.int k (k.wrap (a - b)))
  | .mul => some (.int k (k.wrap (a * b)))
  | .quo => if b = 0 then none else some (.int k (k.wrap (a.tdiv b)))
  | .rem => if b = 0 then none else some (.int k (a.tmod b))
  | .and => some (.int k (k.wrap (BitVec.ofInt k.bits a &&& BitVec.ofInt k.bits b).toNat))
  | .or => some (.int k (k.wrap (BitVec.ofInt k.bits a ||| BitVec.ofInt k.bits b).toNat))
  | .xor => some (.int k (k.wrap (BitVec.ofInt k.bits a ^^^ BitVec.ofInt k.bits b).toNat))
  | .andNot => some (.int k (k.wrap (BitVec.ofInt k.bits a &&& ~~~ (BitVec.ofInt k.bits b)).toNat))
  | .eql => some (.bool (a == b))
  | .neq => some (.bool (a != b))
  | .lss => some (.bool (a < b))
  | .leq => some (.bool (a ≤ b))
  | .gtr => some (.bool (a > b))
  | .geq => some (.bool (a ≥ b))
  | _ => none

def shiftA (op : BinOp) (k : IntKind) (a b : Int) : Option Value :=
  if b < 0 then none else
  match op with
  | .shl => some (.int k (k.wrap (a * 2 ^ (min b.toNat k.bits))))
  | .shr => some (.int k (a.fdiv (2 ^ (min b.toNat k.bits))))
  | _ => none

/-- Equality, where the model decides it without a draw. -/
def eqA (P : Program) (m : Mem) : Nat → TypeId → Value → Value → Option Bool
  | 0, _, _, _ => none
  | d + 1, t, x, y =>
    match P.underlying t, x, y with
    | some .bool, .bool a, .bool b => some (a == b)
    | some (.int _), .int k a, .int k' b => if k = k' then some (a == b) else none
    | some .string, .string a, .string b => some (a == b)
    | some (.pointer _), .pointer none, .pointer b => some b.isNone
    | some (.pointer _), .pointer (some _), .pointer none => some false
    | some (.interface _), .nilIface, .iface _ _ => some false
    | some (.interface _), .iface _ _, .nilIface => some false
    | some (.slice _), .slice none _ _, .slice none _ _ => some true
    | some (.slice _), .slice (some ⟨i, _, _⟩) _ _, .slice none _ _ => match m.get i with
      | some (.cells none _ _ _) => some false
      | some (.cells (some nl) _ _ _) => some nl
      | _ => none
    | some (.map _ _), .map none, .map b => some b.isNone
    | some (.map _ _), .map (some _), .map none => some false
    | some (.func _ _ _), .nilFunc, .nilFunc => some true
    | some (.func _ _ _), .nilFunc, .func _ _ _ => some false
    | some (.func _ _ _), .func _ _ _, .nilFunc => some false
    | some (.struct fields), .agg ⟨xs⟩, .agg ⟨ys⟩ =>
      if P.stoodInHeld t then none else
      fields.toList.foldr (fun f acc => if f.name ≠ "_" then
        match partA P f.type xs f.offset, partA P f.type ys f.offset with
        | some a, some b => match eqA P m d f.type a b with
          | some true => acc
          | some false => some false
          | none => none
        | _, _ => none else acc) (some true)
    | _, _, _ => none

def binA (P : Program) (m : Mem) (op : BinOp) (t : TypeId) (x y : Value) : Option Value :=
  match x, y with
  | .int k a, .int k' b =>
    match op with
    | .shl | .shr => shiftA op k a b
    | _ => if k = k' then intA op k a b else none
  | .agg _, .agg _ =>
    if P.eqGuardType P.depth t then none else
    match op with
    | .eql => (eqA P m 100 t x y).map .bool
    | .neq => (eqA P m 100 t x y).map fun b => .bool !b
    | _ => none
  | .string a, .string b =>
    match op with
    | .eql => some (.bool (a == b))
    | .neq => some (.bool (a != b))
    | _ => none
  | .bool _, .bool _ | .pointer _, .pointer _ | .nilIface, .iface _ _ | .iface _ _, .nilIface | .slice .., .slice .. | .map _, .map _
  | .nilFunc, .nilFunc | .nilFunc, .func .. | .func .., .nilFunc =>
    match op with
    | .eql => (eqA P m 100 t x y).map .bool
    | .neq => (eqA P m 100 t x y).map fun b => .bool !b
    | _ => none
  | _, _ => none

def unA (op : UnOp) (x : Value) : Option Value :=
  match op, x with
  | .neg, .int k n => some (.int k (k.wrap (0 - n)))
  | .xor, .int k n => intA .xor k (if k.signed then -1 else k.max) n
  | .not, .bool b => some (.bool !b)
  | _, _ => none

def fillA (place : Nat → Option (Nat × Nat)) (cells : List Value) : List (Nat × Value) → Option (List Value)
  | [] => some cells
  | (i, v) :: rest =>
    match place i with
    | none => none
    | some (off, size) =>
      let vc := v.cells.toList
      if vc.length ≠ size || off + vc.length > cells.length then none
      else fillA place (cells.take off ++ (vc ++ cells.drop (off + vc.length))) rest

def placeF (P : Program) (fields : Array Field) (i : Nat) : Option (Nat × Nat) :=
  match fields[i]? with
  | some f => (szOf P f.type).map fun s => (f.offset, s)
  | none => none

def evParts (sl : Slots) : List (Nat × Operand) → Option (List (Nat × Value))
  | [] => some []
  | (i, x) :: l => match evO sl x, evParts sl l with
    | some v, some vs => some ((i, v) :: vs)
    | _, _ => none

/-- A slice's bounds: low, high, most. -/
def boundA (x : Value) (y : Nat) : Option Nat :=
  match x with
  | .int _ i => if 0 ≤ i ∧ i ≤ y then some i.toNat else none
  | _ => none
def boundsA (len cap : Nat) (lo hi mx : Option Value) : Option (Nat × Nat × Nat) :=
  match (match mx with | some v => boundA v cap | none => some cap) with
  | none => none
  | some m =>
    match (match hi, mx with | some v, _ => boundA v m | none, none => some len | none, some _ => none) with
    | none => none
    | some h =>
      match (match lo with | some v => boundA v h | none => some 0) with
      | none => none
      | some l => some (l, h, m)

/-- Reslicing a slice. -/
def resliceA (sz : Nat) (i o : Nat) (s : Option Nat) (len cap : Nat) (lo hi mx : Option Value) : Option Value :=
  match boundsA len cap lo hi mx with
  | none => none
  | some (l, h, m) =>
    match s with
    | none => some (.slice (some ⟨i, if m = l then o else o + l * sz, none⟩) (h - l) (m - l))
    | some t =>
      match mx with
      | some _ => if 0 < cap then some (.slice (some ⟨i, if m = l then t else t + l * sz, none⟩) (h - l) (m - l)) else none
      | none =>
        if l ≤ cap then
          if 0 < cap then some (.slice (some ⟨i, if cap = l then t else t + l * sz, some (t + l * sz)⟩) (h - l) (cap - l))
          else some (.slice (some ⟨i, o, some t⟩) (h - l) (cap - l))
        else none

def keyIs (kk : IntKind) (kn : Int) : Value → Bool
  | .int k n => k == kk && n == kn
  | _ => false
def keyOf (kk : IntKind) : Value → Bool
  | .int k _ => k == kk
  | _ => false

/-- The entries of a map value. -/
def mapOf (m : Mem) : Value → Option (List (Value × Value))
  | .map none => some []
  | .map (some r) => match m.get r with
    | some (.map es _) => some es
    | _ => none
  | _ => none

/-- The operations that at most read memory. -/
def evQ (P : Program) (m : Mem) (sl : Slots) (o : Oper) : Option Value :=
  match o.op with
  | .move x | .assign x => evO sl x
  | .pick c a b => match evO sl c with
    | some (.bool true) => evO sl a
    | some (.bool false) => evO sl b
    | _ => none
  | .nilCheck x => match evO sl x with
    | some (.pointer (some a)) => some (.pointer (some a))
    | some (.iface t v) => some (.iface t v)
    | some (.func (.func f) a b) => some (.func (.func f) a b)
    | some (.func (.yield f) a b) => some (.func (.yield f) a b)
    | _ => none
  | .binOp op t x y _ => match evO sl x, evO sl y with
    | some a, some b => binA P m op t a b
    | _, _ => none
  | .unOp op _ x => match evO sl x with
    | some a => unA op a
    | none => none
  | .convert src dst x => match evO sl x, P.underlying dst, P.underlying src with
    | some (.int _ n), some (.int k), some _ => some (.int k (k.wrap n))
    | some (.string s), some .string, some _ => some (.string s)
    | _, _, _ => none
  | .makeInterface t x => match evO sl x, P.underlying t with
    | some _, some (.interface _) => none
    | some v, some _ => some (.iface t v)
    | _, _ => none
  | .makeFunc fn first captured => match evs sl first.toList, evs sl captured.toList with
    | some a, some b => match fn with
      | .func _ => some (.func fn ⟨a⟩ ⟨b⟩)
      | _ => none
    | _, _ => none
  | .build t parts => match zeroOf P t, evParts sl parts.toList with
    | some z, some ps => match P.underlying t with
      | some (.struct fields) =>
        match fillA (placeF P fields) z.cells.toList ps with
        | some cs => if fields.all (fun f => (szOf P f.type).isSome) then some (.agg ⟨cs⟩) else none
        | none => none
      | some (.array _ elem) => match szOf P elem with
        | some sz => match fillA (fun i => some (i * sz, sz)) z.cells.toList ps with
          | some cs => some (.agg ⟨cs⟩)
          | none => none
        | none => none
      | _ => none
    | _, _ => none
  | .field t x f => match P.underlying t, evO sl x with
    | some (.struct fields), some (.agg ⟨cs⟩) => match fields[f]? with
      | some fd => partA P fd.type cs fd.offset
      | none => none
    | _, _ => none
  | .fieldAddr t x f => match P.underlying t, evO sl x with
    | some (.struct fields), some (.pointer (some ⟨i, off, none⟩)) => match fields[f]? with
      | some fd => match szOf P fd.type, m.get i with
        | some (_ + 1), some (.cells ..) => some (.pointer (some ⟨i, off + fd.offset, none⟩))
        | _, _ => none
      | none => none
    | _, _ => none
  | .indexAddr t x ix => match evO sl ix, P.underlying t, evO sl x with
    | some (.int _ i), some (.array len elem), some (.pointer (some ⟨b, off, none⟩)) =>
      if 0 ≤ i ∧ i < len then match szOf P elem with
        | some sz => some (.pointer (some ⟨b, off + i.toNat * sz, none⟩))
        | none => none
      else none
    | some (.int _ i), some (.slice elem), some (.slice (some ⟨b, off, s⟩) len cap) =>
      if 0 ≤ i ∧ i < len ∧ liveAt m b = true then match szOf P elem with
        | some sz => match s with
          | none => some (.pointer (some ⟨b, off + i.toNat * sz, none⟩))
          | some t => if 0 < cap then some (.pointer (some ⟨b, t + i.toNat * sz, none⟩)) else none
        | none => none
      else none
    | _, _, _ => none
  | .index t x ix => match evO sl ix, P.underlying t, evO sl x with
    | some (.int _ i), some (.array len elem), some (.agg ⟨cs⟩) =>
      if 0 ≤ i ∧ i < len then match szOf P elem with
        | some sz => partA P elem cs (i.toNat * sz)
        | none => none
      else none
    | some (.int _ i), some .string, some (.string s) =>
      if 0 ≤ i then match s[i.toNat]? with
        | some b => some (.int .u8 b.toNat)
        | none => none
      else none
    | _, _, _ => none
  | .slice t x lo hi mx =>
    match P.underlying t, evO sl x, (match lo with | some v => (evO sl v).map some | none => some none),
      (match hi with | some v => (evO sl v).map some | none => some none), (match mx with | some v => (evO sl v).map some | none => some none) with
    | some (.slice elem), some (.slice none len cap), some lo, some hi, some mx => match szOf P elem, boundsA len cap lo hi mx with
      | some _, some (l, h, m) => some (.slice none (h - l) (m - l))
      | _, _ => none
    | some (.slice elem), some (.slice (some ⟨i, o, s⟩) len cap), some lo, some hi, some mx => match szOf P elem with
      | some sz => resliceA sz i o s len cap lo hi mx
      | none => none
    | _, _, _, _, _ => none
  | .extract x i => match evO sl x with
    | some (.tuple ⟨vs⟩) => vs[i]?
    | _ => none
  | .typeAssert x _ asserted ok => match P.underlying asserted, evO sl x with
    | some (.interface _), _ => none
    | some _, some (.iface t v) =>
      if t = asserted then some (if ok then .tuple #[v, .bool true] else v)
      else if ok then match zeroOf P asserted with
        | some z => some (.tuple #[z, .bool false])
        | none => none
      else none
    | _, _ => none
  | .load t a => match evO sl a with
    | some x => loadA P m t x
    | none => none
  | .lookup t x k ok => match P.underlying t, evO sl x, evO sl k with
    | some (.map kt elem), some mp, some (.int kk kn) =>
      match P.underlying kt, zeroOf P elem with
      | some (.int _), some z =>
        match mapOf m mp with
        | some es =>
          if es.all (fun e => keyOf kk e.1) then
            match es.find? (fun e => keyIs kk kn e.1) with
            | some e => some (if ok then .tuple #[e.2, .bool true] else e.2)
            | none => some (if ok then .tuple #[z, .bool false] else z)
          else none
        | none => none
      | _, _ => none
    | _, _, _ => none
  | .entry x => match evO sl x with
    | some (.pointer (some ⟨r, 0, none⟩)) => match m.get r with
      | some (.iter (some mp) since _ (some (.int kk kn))) => match m.get mp with
        | some (.map es clk) => if clk = since then
            match es.find? (fun e => keyIs kk kn e.1) with
            | some e => some (.tuple #[e.1, e.2])
            | none => none
          else none
        | _ => none
      | _ => none
    | _ => none
  | .call { callee := .builtin .len, args, argTypes } => match argTypes.toList, evs sl args.toList with
    | [t], some [x] => match P.underlying t, x with
      | some (.slice _), .slice _ len _ => some (.int .i64 len)
      | some (.array len _), _ => some (.int .i64 len)
      | some (.map _ _), .map none => some (.int .i64 0)
      | some (.map _ _), .map (some r) => match m.get r with
        | some (.map es _) => some (.int .i64 es.length)
        | _ => none
      | some .string, .string s => some (.int .i64 s.size)
      | _, _ => none
    | _, _ => none
  | .call { callee := .builtin .max, args, .. } => match evs sl args.toList with
    | some [.int k x, .int _ y] => some (.int k (if y > x then y else x))
    | _ => none
  | .call { callee := .builtin .min, args, .. } => match evs sl args.toList with
    | some [.int k x, .int _ y] => some (.int k (if y < x then y else x))
    | _ => none
  | _ => none
end Go.Ab
