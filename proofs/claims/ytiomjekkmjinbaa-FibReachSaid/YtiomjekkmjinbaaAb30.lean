/- A transformer of predicates: what a frame must meet, printed as a plain proposition. Branches, loads, calls are nodes. Definitions alone. -/
import Derived.Test.YtiomjekkmjinbaaAb27
namespace Go.Ab
open Go
set_option linter.unusedVariables false
noncomputable section

/-- The kinds of a cell. -/
inductive Kd where
  | int (k : IntKind) | bool | ptr | slice | map | fn | any

/-- A memory that gets a name. -/
def memLet (m : Mem) (K : Mem → Prop) : Prop := K m

def exK : Kd → (Value → Prop) → Prop
  | .int k, F => ∃ x : Int, F (.int k x)
  | .bool, F => ∃ b : Bool, F (.bool b)
  | .ptr, F => ∃ p : Option Addr, F (.pointer p)
  | .slice, F => ∃ (a : Option Addr) (l c : Nat), F (.slice a l c)
  | .map, F => ∃ r : Option Nat, F (.map r)
  | .fn, F => ∃ (f : FuncId) (a c : List Value), F (.func (.func f) ⟨a⟩ ⟨c⟩)
  | .any, F => ∃ v : Value, F v
def exKs : List Kd → (List Value → Prop) → Prop
  | [], F => F []
  | k :: ks, F => exK k fun v => exKs ks fun vs => F (v :: vs)

def kdD : Option TypeDesc → Kd
  | some (.int k) => .int k
  | some .bool => .bool
  | some (.pointer _) => .ptr
  | some (.slice _) => .slice
  | some (.map _ _) => .map
  | some (.func _ _ _) => .fn
  | _ => .any
/-- The kinds of a type's cells. -/
def cellsK (P : Program) : Nat → TypeId → List Kd
  | 0, _ => []
  | f + 1, t => match P.underlying t with
    | some (.struct fs) => fs.toList.flatMap fun x => cellsK P f x.type
    | some (.array n e) => (List.replicate n (cellsK P f e)).flatten
    | d => [kdD d]
/-- A value of a type, by its cells. -/
def exV (P : Program) (t : TypeId) (F : Value → Prop) : Prop :=
  match aggT P t with
  | some true => exKs (cellsK P 20 t) fun cs => F (.agg ⟨cs⟩)
  | some false => exK (kdD (P.underlying t)) F
  | none => False
/-- The same; a value of an interface's type is of the type that the table names. -/
def exD (P : Program) (dy : TypeId → Option TypeId) (t : TypeId) (F : Value → Prop) : Prop :=
  match dy t with
  | some u => exV P u fun v => F (.iface u v)
  | none => exV P t F
def exVs (P : Program) (dy : TypeId → Option TypeId) : List TypeId → (List Value → Prop) → Prop
  | [], F => F []
  | t :: ts, F => exD P dy t fun v => exVs P dy ts fun vs => F (v :: vs)
/-- What a call hands back, by its types. -/
def exR (P : Program) (dy : TypeId → Option TypeId) : List TypeId → (Value → Prop) → Prop
  | [t], F => exD P dy t F
  | ts, F => exVs P dy ts fun vs => F (.tuple ⟨vs⟩)

def elimP (p : Option Addr) (kn : Prop) (ks : Nat → Nat → Prop) : Prop :=
  match p with
  | none => kn
  | some ⟨i, o, none⟩ => ks i o
  | some ⟨_, _, some _⟩ => False
def elimA (p : Option Addr) (kn : Prop) (ks : Nat → Nat → Option Nat → Prop) : Prop :=
  match p with
  | none => kn
  | some ⟨i, o, s⟩ => ks i o s
def elimM (p : Option Nat) (kn : Prop) (ks : Nat → Prop) : Prop :=
  match p with
  | none => kn
  | some i => ks i
def elimE (p : Option (Value × Value)) (kn : Prop) (ks : Value × Value → Prop) : Prop :=
  match p with
  | none => kn
  | some e => ks e

def rd (m : Mem) (i off : Nat) : Option Value :=
  match cellsOf m i with
  | some cs => cs[off]?
  | none => none
def rds (m : Mem) (i off sz : Nat) : Option (List Value) :=
  match cellsOf m i with
  | some cs => takeAt cs off sz
  | none => none
def isC (m : Mem) (i : Nat) : Bool :=
  match m.get i with
  | some (.cells ..) => true
  | _ => false
def nilAt (m : Mem) (i : Nat) : Option Bool :=
  match m.get i with
  | some (.cells none _ _ _) => some false
  | some (.cells (some nl) _ _ _) => some nl
  | _ => none

def optX (r : Option Value) (K : Value → Prop) : Prop :=
  match r with
  | some v => K v
  | none => False

def ldX (P : Program) (m : Mem) (t : TypeId) (i off : Nat) (K : Value → Prop) : Prop :=
  match aggT P t with
  | some false => exK (kdD (P.underlying t)) fun v => rd m i off = some v ∧ K v
  | some true => match szOf P t with
    | some sz => exKs (cellsK P 20 t) fun cs => rds m i off sz = some cs ∧ K (.agg ⟨cs⟩)
    | none => False
  | none => False

/-- A method of a value of an interface: the function and the receiver. -/
def methX (P : Program) (m : Mem) (t : TypeId) (v : Value) (name : String) (K : FuncId → Value → Prop) : Prop :=
  match P.info? t with
  | none => False
  | some info => match info.methods.find? (·.name == name) with
    | none => False
    | some me => match me.path.toList, me.func, P.underlying t with
      | [], some (f, true), some (.pointer _) => K f v
      | [], some (f, false), some (.pointer e) => match v with
        | .pointer p => match p with
          | some ⟨i, off, none⟩ => ldX P m e i off fun x => K f x
          | _ => False
        | _ => False
      | [], some (f, false), some _ => K f v
      | _, _, _ => False

/-- Equality of aggregates, all fields; 'eq' compares two parts. -/
def eqF (P : Program) (eq : TypeId → Value → Value → Option Bool) (xs ys : List Value) : List Field → Option Bool
  | [] => some true
  | f :: fs => match partA P f.type xs f.offset, partA P f.type ys f.offset with
    | some a, some b => match eq f.type a b, eqF P eq xs ys fs with
      | some u, some v => match Nat.beq f.name.utf8ByteSize 0 || f.name == "_" with
        | true => none
        | false => some (u && v)
      | _, _ => none
    | _, _ => none
/-- Equality of parts: of a struct within a struct, all its fields. -/
def eqN (P : Program) : Nat → TypeId → Value → Value → Option Bool
  | 0, _, _, _ => none
  | d + 1, t, x, y => match x, y with
    | .agg xs, .agg ys => match P.underlying t with
      | some (.struct fs) => match P.stoodInHeld t with
        | true => none
        | false => eqF P (eqN P d) xs.toList ys.toList fs.toList
      | _ => none
    | x, y => eqA P .leaf (d + 1) t x y
def eqS (P : Program) (t : TypeId) (xs ys : List Value) : Option Bool :=
  match P.underlying t with
  | some (.struct fs) => match P.stoodInHeld t || P.eqGuardType P.depth t with
    | true => none
    | false => eqF P (eqN P 99) xs ys fs.toList
  | _ => none

def neX (op : BinOp) (b : Bool) : Option Value :=
  match op with
  | .eql => some (.bool b)
  | .neq => some (.bool !b)
  | _ => none
def binX (P : Program) (m : Mem) (op : BinOp) (t : TypeId) (x y : Value) (K : Value → Prop) : Prop :=
  match x, y with
  | .int k a, .int k' b => match op with
    | .shl => 0 ≤ b ∧ K (.int k (k.wrap (a * 2 ^ (min b.toNat k.bits))))
    | .shr => 0 ≤ b ∧ K (.int k (a.fdiv (2 ^ (min b.toNat k.bits))))
    | .quo => match decide (k = k') with
      | true => b ≠ 0 ∧ K (.int k (k.wrap (a.tdiv b)))
      | false => False
    | .rem => match decide (k = k') with
      | true => b ≠ 0 ∧ K (.int k (a.tmod b))
      | false => False
    | op => match decide (k = k') with
      | true => optX (intA op k a b) K
      | false => False
  | .pointer p, .pointer q => match P.underlying t with
    | some (.pointer _) => elimP q (optX (neX op p.isNone) K) fun _ _ => elimP p (optX (neX op false) K) fun _ _ => False
    | _ => False
  | .map p, .map q => match P.underlying t with
    | some (.map _ _) => elimM q (optX (neX op p.isNone) K) fun _ => elimM p (optX (neX op false) K) fun _ => False
    | _ => False
  | .slice a l c, .slice b l' c' => match P.underlying t with
    | some (.slice _) => elimA b (elimA a (optX (neX op true) K) fun i _ _ => ∃ r, nilAt m i = some r ∧ optX (neX op r) K) fun _ _ _ => False
    | _ => False
  | .agg xs, .agg ys => match eqS P t xs.toList ys.toList with
    | some b => optX (neX op b) K
    | none => False
  | x, y => optX (binA P m op t x y) K

/-- One of a list's parts, by an index. -/
def selX (i : Int) (K : Nat → Prop) : Nat → Nat → Prop
  | _, 0 => False
  | j, n + 1 => cond (i == (j : Int)) (K j) (selX i K (j + 1) n)

def boundX (x : Value) (y : Nat) (K : Nat → Prop) : Prop :=
  match x with
  | .int _ i => (0 ≤ i ∧ i ≤ y) ∧ K i.toNat
  | _ => False
def bndX (v : Option Value) (y dflt : Nat) (K : Nat → Prop) : Prop :=
  match v with
  | some x => boundX x y K
  | none => K dflt
def boundsX (len cap : Nat) (lo hi mx : Option Value) (K : Nat → Nat → Nat → Prop) : Prop :=
  bndX mx cap cap fun m => match hi, mx with
    | none, some _ => False
    | hi, _ => bndX hi m len fun h => bndX lo h 0 fun l => K l h m
def resliceX (sz : Nat) (i o : Nat) (s : Option Nat) (len cap : Nat) (lo hi mx : Option Value) (K : Value → Prop) : Prop :=
  boundsX len cap lo hi mx fun l h m => elimM s (K (.slice (some ⟨i, if m = l then o else o + l * sz, none⟩) (h - l) (m - l))) fun t => match mx with
      | some _ => 0 < cap ∧ K (.slice (some ⟨i, if m = l then t else t + l * sz, none⟩) (h - l) (m - l))
      | none => (l ≤ cap ∧ 0 < cap) ∧ K (.slice (some ⟨i, if cap = l then t else t + l * sz, some (t + l * sz)⟩) (h - l) (cap - l))
def oprX (sl : Slots) (x : Option Operand) (K : Option Value → Prop) : Prop :=
  match x with
  | none => K none
  | some x => match evOK sl x with
    | some v => K (some v)
    | none => False

/-- The operations that at most read. -/
def qX (P : Program) (m : Mem) (sl : Slots) (o : Oper) (K : Value → Prop) : Prop :=
  match o.op with
  | .pick c a b => match evOK sl c with
    | some (.bool x) => cond x (optX (evOK sl a) K) (optX (evOK sl b) K)
    | _ => False
  | .nilCheck x => match evOK sl x with
    | some (.pointer p) => elimP p False fun i off => K (.pointer (some ⟨i, off, none⟩))
    | _ => optX (xq_nilCheck P m sl x) K
  | .load t a => match evOK sl a with
    | some (.pointer p) => elimP p False fun i off => ldX P m t i off K
    | _ => False
  | .binOp op t x y _ => match evOK sl x, evOK sl y with
    | some a, some b => binX P m op t a b K
    | _, _ => False
  | .fieldAddr t x f => match P.underlying t, evOK sl x with
    | some (.struct fields), some (.pointer p) => elimP p False fun i off => match fields[f]? with
      | some fd => match szOf P fd.type with
        | some (_ + 1) => isC m i = true ∧ K (.pointer (some ⟨i, off + fd.offset, none⟩))
        | _ => False
      | none => False
    | _, _ => False
  | .indexAddr t x ix => match evOK sl ix, P.underlying t, evOK sl x with
    | some (.int _ i), some (.array len elem), some (.pointer p) => elimP p False fun b off => match szOf P elem with
      | some sz => (0 ≤ i ∧ i < len) ∧ K (.pointer (some ⟨b, off + i.toNat * sz, none⟩))
      | none => False
    | some (.int _ i), some (.slice elem), some (.slice a len cap) => elimA a False fun b off s => match szOf P elem with
      | some sz => (0 ≤ i ∧ i < len ∧ liveAt m b = true ∧ (s ≠ none → 0 < cap)) ∧ K (.pointer (some ⟨b, offOf off s + i.toNat * sz, none⟩))
      | none => False
    | _, _, _ => False
  | .index t x ix => match evOK sl ix, P.underlying t, evOK sl x with
    | some (.int _ i), some (.array len elem), some (.agg cs) => match szOf P elem with
      | some sz => selX i (fun j => optX (partA P elem cs.toList (j * sz)) K) 0 len
      | none => False
    | _, _, _ => False
  | .slice t x lo hi mx => match P.underlying t, evOK sl x with
    | some (.slice elem), some (.slice a len cap) => oprX sl lo fun lo => oprX sl hi fun hi => oprX sl mx fun mx => match szOf P elem with
      | some sz => elimA a (boundsX len cap lo hi mx fun l h m => K (.slice none (h - l) (m - l))) fun i o s => resliceX sz i o s len cap lo hi mx K
      | none => False
    | _, _ => False
  | .typeAssert x _ asserted ok => match P.underlying asserted, evOK sl x with
    | some (.interface _), _ => False
    | some _, some (.iface t v) => match ok with
      | false => t = asserted ∧ exV P asserted fun u => v = u ∧ K u
      | true => cond (t == asserted) (exV P asserted fun u => v = u ∧ K (.tuple #[u, .bool true])) (match zeroOf P asserted with
        | some z => K (.tuple #[z, .bool false])
        | none => False)
    | _, _ => False
  | .lookup t x k ok => match P.underlying t, evOK sl x, evOK sl k with
    | some (.map kt elem), some mp, some (.int kk kn) => match P.underlying kt, zeroOf P elem with
      | some (.int _), some z => ∃ es, mapOf m mp = some es ∧ es.all (fun e => keyOf kk e.1) = true ∧
          elimE (es.find? fun e => keyIs kk kn e.1) (K (match ok with | true => .tuple #[z, .bool false] | false => z))
            fun e => exV P elem fun u => e.2 = u ∧ K (match ok with | true => .tuple #[u, .bool true] | false => u)
      | _, _ => False
    | _, _, _ => False
  | .call c => match c.callee, c.argTypes.toList, evsK sl c.args.toList with
    | .builtin .len, [t], some [.map r] => match P.underlying t with
      | some (.map _ _) => elimM r (K (.int .i64 0)) fun r => ∃ es clk, m.get r = some (.map es clk) ∧ K (.int .i64 es.length)
      | _ => False
    | _, _, _ => optX (xq_call P m sl c) K
  | .entry _ => False
  | _ => optX (evQX P m sl o) K

/-- A call, by its frame. -/
def Wc (P : Program) (f : FuncId) (args : List Value) (m : Mem) (n : Nat) (Q : Value → Mem → Nat → Prop) : Prop :=
  match enterA P f args .normal with
  | some fr => W P fr m n Q
  | none => False
def retT (P : Program) (f : FuncId) : List TypeId :=
  match P.funcs[f]? with
  | some fn => fn.resultTypes.toList
  | none => []

abbrev XEv := FuncId → Nat → Slots → List Item → List Deferred → Bool → CallKind → Option Nat → Mem → Nat → (Value → Mem → Nat → Prop) → Prop
def xF (ev : XEv) (fr : AFrame) (m : Mem) (n : Nat) (Q : Value → Mem → Nat → Prop) : Prop :=
  match fr with
  | ⟨a, b, c, d, e, g, h, i⟩ => ev a b c d e g h i m n Q

/-- What is inlined, which slots are kept at a region's end. -/
structure Cfg where
  inl : FuncId → Bool
  keep : FuncId → Nat → Option (List Nat)
  rv : FuncId → Option Value
  stop : FuncId → Nat → Bool
  dyn : TypeId → Option TypeId
def headId : Code → Nat
  | .region id _ _ => id
  | .seq a _ => headId a
  | .block _ a => headId a
  | .loop a => headId a
  | .scope a => headId a
  | _ => 0
/-- Hints as a table. -/
def lookN {α : Type} : List (Nat × α) → Nat → Option α
  | [], _ => none
  | (i, x) :: l, j => match Nat.beq i j with
    | true => some x
    | false => lookN l j
def memN : List Nat → Nat → Bool
  | [], _ => false
  | i :: l, j => match Nat.beq i j with
    | true => true
    | false => memN l j
def mkCfg (inl : List Nat) (tbl : List (Nat × List (Nat × List Nat))) (rv : List (Nat × Value)) (st : List (Nat × List Nat)) : Cfg :=
  ⟨memN inl, fun f i => match lookN tbl f with
    | some l => lookN l i
    | none => none, fun f => lookN rv f, fun f i => match lookN st f with
    | some l => memN l i
    | none => false, fun _ => none⟩
/-- The same, with a table of what values of interfaces' types are of. -/
def mkCfgD (inl : List Nat) (tbl : List (Nat × List (Nat × List Nat))) (st : List (Nat × List Nat)) (dy : List (Nat × Nat)) : Cfg :=
  ⟨memN inl, fun f i => match lookN tbl f with
    | some l => lookN l i
    | none => none, fun _ => none, fun f i => match lookN st f with
    | some l => memN l i
    | none => false, fun t => lookN dy t⟩
/-- What is to do at a place in a function's code. -/
def todoAt : Code → List Item → List Nat → List Item
  | c, k, [] => .code c :: k
  | .seq a b, k, 0 :: p => todoAt a (.code b :: k) p
  | .seq _ b, k, 1 :: p => todoAt b k p
  | .cond _ a _, k, 0 :: p => todoAt a k p
  | .cond _ _ b, k, 1 :: p => todoAt b k p
  | .block id b, k, 0 :: p => todoAt b (.inBlock id :: k) p
  | .loop b, k, 0 :: p => todoAt b (.inLoop b :: k) p
  | .scope b, k, 0 :: p => todoAt b (.inScope b :: k) p
  | .rangeFunc _ _ _ b, _, 0 :: p => todoAt b [] p
  | _, _, _ => []
def pt (P : Program) (f : FuncId) (path : List Nat) : List Item :=
  match P.funcs[f]? with
  | some fn => match fn.body with
    | some c => todoAt c [] path
    | none => []
  | none => []

/-- A part that the simplifier leaves alone. -/
def Later (p : Prop) : Prop := p
theorem Later.mk {p : Prop} (h : p) : Later p := h
@[congr] theorem Later_congr {p q : Prop} (_ : p = q) : Later p = Later p := rfl

/-- The types of what a call hands back. -/
def retO (P : Program) (t : TypeId) : List TypeId :=
  match P.underlying t with
  | some (.tuple ts) => ts.toList
  | _ => [t]
def clX (P : Program) (cfg : Cfg) (ev : XEv) (rt : Option (List TypeId)) (f : FuncId) (args : List Value) (m : Mem) (n : Nat) (K : Value → Mem → Nat → Prop) : Prop :=
  match rt with
  | some ts => Wc P f args m n fun v m' n' => exR P cfg.dyn ts fun u => v = u ∧ Later (K u m' n')
  | none => match cfg.inl f with
  | true => match enterA P f args .normal with
    | some fr => xF ev fr m n K
    | none => False
  | false => match cfg.rv f with
    | some u => Wc P f args m n fun v m' n' => v = u ∧ Later (K u m' n')
    | none => Wc P f args m n fun v m' n' => exR P cfg.dyn (retT P f) fun u => v = u ∧ Later (K u m' n')

def copyV (P : Program) (m : Mem) (n : Nat) (t0 : TypeId) (a : Option Addr) (len cap : Nat) (b : Option Addr) (k kcap : Nat) : Eff :=
  match P.underlying t0 with
  | some (.slice elem) => match szOf P elem with
    | some sz => match sliceCells m sz (min k len) (.slice b k kcap), a with
      | some _, none => .val (.int .i64 (min k len : Nat)) m n
      | some cs, some ⟨i, o, sp⟩ =>
        if min k len = 0 then .val (.int .i64 0) m n else
        if 0 < cap then
          match storeCs m i (offOf o sp) cs with
          | some m' => .val (.int .i64 (min k len : Nat)) m' n
          | none => .fail
        else .fail
      | none, _ => .fail
    | none => .fail
  | _ => .fail
def clearV (P : Program) (m : Mem) (n : Nat) (t0 : TypeId) (a : Option Addr) (len cap : Nat) : Eff :=
  match P.underlying t0 with
  | some (.slice elem) => match szOf P elem, zeroOf P elem, a with
    | some _, some _, none => .val (.tuple #[]) m n
    | some sz, some z, some ⟨i, o, sp⟩ =>
      if len = 0 then .val (.tuple #[]) m n else
      if z.cells.toList.length = sz ∧ 0 < cap then
        match storeCs m i (offOf o sp) (List.replicate len z.cells.toList).flatten with
        | some m' => .val (.tuple #[]) m' n
        | none => .fail
      else .fail
    | _, _, _ => .fail
  | _ => .fail

abbrev CallX := Option (List TypeId) → FuncId → List Value → Mem → Nat → (Value → Mem → Nat → Prop) → Prop
abbrev YieldX := Nat → List Value → Mem → Nat → (Value → Mem → Nat → Prop) → Prop
def yldX (P : Program) : YieldX := fun l args m n K =>
  ∃ fr, roundA m l args = some fr ∧ W P fr m n fun v m n => ∃ b, v = .bool b ∧ Later (K (.bool b) m n)
def isFn : Operand → Bool
  | .func _ => true
  | _ => false
def calleeX (P : Program) (call : FuncId → List Value → Mem → Nat → (Value → Mem → Nat → Prop) → Prop) (yld : YieldX) (m : Mem) (n : Nat) (v : Value) (args : List Value) (K : Value → Mem → Nat → Prop) : Prop :=
  match v with
  | .func (.func f) ⟨first⟩ ⟨cap⟩ => call f (first ++ args ++ cap) m n K
  | .func (.yield l) ⟨first⟩ _ => yld l (first ++ args) m n K
  | _ => False

/-- The operations that write, make memory or call. -/
def eX (P : Program) (call : CallX) (yld : YieldX) (m : Mem) (n : Nat) (sl : Slots) (o : Oper) (K : Value → Mem → Nat → Prop) : Prop :=
  match o.op with
  | .store t a x => match evOK sl a, evOK sl x, szOf P t with
    | some (.pointer p), some v, some sz => elimP p False fun i off => match Nat.beq v.cells.toList.length sz with
      | true => ∃ m', storeCs m i off v.cells.toList = some m' ∧ K undef m' n
      | false => False
    | _, _, _ => False
  | .makeSlice t l c => match P.underlying t, evOK sl l, evOK sl c with
    | some (.slice elem), some (.int _ l), some (.int _ c) => match P.info? elem, zeroOf P elem with
      | some info, some z => match Nat.beq z.cells.toList.length info.size with
        | true => (0 ≤ l ∧ l ≤ c ∧ (info.bytes + 1) * c ≤ 2 ^ 48) ∧
          memLet (m.set n (.cells none elem info.size (List.replicate c.toNat z.cells.toList).flatten)) fun m' => K (.slice (some ⟨n, 0, none⟩) l.toNat c.toNat) m' (n + 1)
        | false => False
      | _, _ => False
    | _, _, _ => False
  | .mapUpdate t mp k x | .insert t mp k x => match P.underlying t, evOK sl mp, evOK sl k, evOK sl x with
    | some (.map kt _), some (.map r), some (.int kk kn), some v => match P.underlying kt with
      | some (.int _) => elimM r False fun r => ∃ es clk, m.get r = some (.map es clk) ∧ es.all (fun e => keyOf kk e.1) = true ∧
          cond (es.any fun e => keyIs kk kn e.1) (memLet (m.set r (.map (setKey es kk kn v) clk)) fun m' => K undef m' n) (memLet (m.set r (.map (es ++ [(.int kk kn, v)]) (clk + 1))) fun m' => K undef m' n)
      | _ => False
    | _, _, _, _ => False
  | .range t x => match P.underlying t, evOK sl x with
    | some (.map _ _), some (.map r) => elimM r (memLet (m.set n (.iter none 0 [] none)) fun m' => K (.pointer (some ⟨n, 0, none⟩)) m' (n + 1)) fun r =>
        ∃ es clk, m.get r = some (.map es clk) ∧ es.all intKey = true ∧ memLet (m.set n (.iter (some r) clk (es.map (·.1)) none)) fun m' => K (.pointer (some ⟨n, 0, none⟩)) m' (n + 1)
    | _, _ => False
  | .call c => match c.callee, c.argTypes.toList, evsK sl c.args.toList with
    | .builtin .append, [t0, t1], some [s, x] => ∃ a l c m' n', appendA P m n t0 t1 s x = .val (.slice a l c) m' n' ∧ K (.slice a l c) m' n'
    | .builtin .copy, [t0, _], some [.slice a len cap, .slice b k kcap] => ∃ (r : Int) (m' : Mem), copyV P m n t0 a len cap b k kcap = .val (.int .i64 r) m' n ∧ K (.int .i64 r) m' n
    | .builtin .clear, [t0], some [.slice a len cap] => ∃ (m' : Mem), clearV P m n t0 a len cap = .val (.tuple #[]) m' n ∧ K (.tuple #[]) m' n
    | .value f, _, some vs => match evOK sl f with
      | some fv => calleeX P (call (match isFn f with | true => none | false => some (retO P o.type))) yld m n fv vs K
      | none => False
    | .invoke recv name, _, some vs => match evOK sl recv with
      | some (.iface t v) => methX P m t v name fun f r => call none f (r :: vs) m n K
      | _ => False
    | _, _, _ => False
  | .alloc _ => match evA P sl o n with
    | some (ob, v) => memLet (m.set n ob) fun m' => K v m' (n + 1)
    | none => False
  | .box _ _ => match evA P sl o n with
    | some (ob, v) => memLet (m.set n ob) fun m' => K v m' (n + 1)
    | none => False
  | .buildSlice _ _ _ => match evA P sl o n with
    | some (ob, v) => memLet (m.set n ob) fun m' => K v m' (n + 1)
    | none => False
  | .makeMap _ none => match evA P sl o n with
    | some (ob, v) => memLet (m.set n ob) fun m' => K v m' (n + 1)
    | none => False
  | _ => False

def wantX (ops : Array Oper) (sl : Slots) (o : Oper) (Ky Kn : Slots → Prop) : Prop :=
  match o.guard with
  | none => Ky sl
  | some (j, want) => match (ops[j]?).bind (·.dst) with
    | some t => match lkK sl t with
      | some (.bool b) => match want with
        | true => cond b (Ky (put sl t (.bool true))) (Kn (put sl t (.bool false)))
        | false => cond b (Kn (put sl t (.bool true))) (Ky (put sl t (.bool false)))
      | some _ => Kn sl
      | none => False
    | none => Kn sl

def isDefer : Op → Bool
  | .defer _ => true
  | _ => false
def isNext : Op → Bool
  | .next _ false => true
  | _ => false
/-- The entries of a map that an iteration may still come to. -/
def candsE (es : List (Value × Value)) (left : List Value) : List (Value × Value) :=
  es.filter (fun e => left.any fun k => match k with | .int kk kn => keyIs kk kn e.1 | _ => false)
def nextE (m : Mem) (r : Nat) (kd : Prop) (ke : Int → Value → Mem → Prop) : Prop :=
  match m.get r with
  | some (.iter none _ _ _) => kd
  | some (.iter (some mp) since left _) => match m.get mp with
    | some (.map es clk) => (clk = since ∧ es.all intKey = true ∧ es.all (fun e => keyOf .i64 e.1) = true) ∧ (candsE es left = [] → kd) ∧
        ∀ x v, (Value.int .i64 x, v) ∈ candsE es left → ke x v (m.set r (.iter (some mp) since (left.filter fun k => !keyIs .i64 x k) (some (.int .i64 x))))
    | _ => False
  | _ => False
def nextX (m : Mem) (n : Nat) (sl : Slots) (o : Oper) (K : Value → Mem → Nat → Prop) : Prop :=
  match o.op with
  | .next it false => match evOK sl it with
    | some (.pointer p) => elimP p False fun r off => match off with
      | 0 => nextE m r (K (.tuple #[.bool false]) m n) fun x v m' => K (.tuple #[.bool true, .int .i64 x, v]) m' n
      | _ + 1 => False
    | _ => False
  | _ => False
def oneX (P : Program) (call : CallX) (round : Option Nat) (o : Oper) (sl : Slots) (ds : List Deferred) (m : Mem) (n : Nat)
    (K : List Deferred → Value → Mem → Nat → Prop) : Prop :=
  match quietOp o.op with
  | true => qX P m sl o fun v => K ds v m n
  | false => match isDefer o.op with
    | true => match round, evOpX P m n sl o with
      | none, .dfr d => K (d :: ds) undef m n
      | _, _ => False
    | false => match isNext o.op with
      | true => nextX m n sl o (K ds)
      | false => eX P call (yldX P) m n sl o (K ds)

/-- A region in the text's order. -/
def regX (P : Program) (call : CallX) (ops : Array Oper) (round : Option Nat) (K : Slots → List Deferred → Mem → Nat → Prop) :
    List Oper → Slots → List Deferred → Mem → Nat → Prop
  | [], sl, ds, m, n => K sl ds m n
  | o :: os, sl, ds, m, n => wantX ops sl o (fun sl => oneX P call round o sl ds m n fun ds v m n => regX P call ops round K os (putO sl o.dst v) ds m n)
      (fun sl => regX P call ops round K os (putO sl o.dst undef) ds m n)

/-- A call in a region that draws: just one end. -/
def callD (P : Program) (cfg : Cfg) : CallX := fun rt f args m n K =>
  match rt with
  | some ts => exR P cfg.dyn ts fun u => ∃ m' n', Wc P f args m n (fun v m1 n1 => v = u ∧ m1 = m' ∧ n1 = n') ∧ Later (K u m' n')
  | none => match cfg.inl f with
  | true => match callK P (fun _ => none) 200 f args m n with
    | some [(v, m', n')] => K v m' n'
    | _ => False
  | false => match cfg.rv f with
    | some u => ∃ m' n', Wc P f args m n (fun v m1 n1 => v = u ∧ m1 = m' ∧ n1 = n') ∧ Later (K u m' n')
    | none => exR P cfg.dyn (retT P f) fun u => ∃ m' n', Wc P f args m n (fun v m1 n1 => v = u ∧ m1 = m' ∧ n1 = n') ∧ Later (K u m' n')
def yldD (P : Program) : YieldX := fun l args m n K =>
  ∃ (fr : AFrame) (b : Bool) (m' : Mem) (n' : Nat), roundA m l args = some fr ∧ W P fr m n (fun v m1 n1 => v = .bool b ∧ m1 = m' ∧ n1 = n') ∧ Later (K (.bool b) m' n')
/-- The first place of a slot, written. -/
def setF : Slots → Nat → Value → Slots
  | [], _, _ => []
  | (s, u) :: l, t, v => match Nat.beq s t with
    | true => (s, v) :: l
    | false => (s, u) :: setF l t v
def wantD (one : Bool) (ops : Array Oper) (sl : Slots) (o : Oper) (Ky Kn : Slots → Prop) : Prop :=
  match o.guard with
  | none => Ky sl
  | some (j, want) => match (ops[j]?).bind (·.dst) with
    | some t => match lkK sl t with
      | some (.bool b) => match one with
        | true => match want with
          | true => cond b (Ky (setF sl t (.bool true))) False
          | false => cond b False (Ky (setF sl t (.bool false)))
        | false => match want with
          | true => cond b (Ky (setF sl t (.bool true))) (Kn (setF sl t (.bool false)))
          | false => cond b (Kn (setF sl t (.bool true))) (Ky (setF sl t (.bool false)))
      | some _ => Kn sl
      | none => False
    | none => Kn sl
def aX (P : Program) (sl : Slots) (o : Oper) (i : Nat) (K : AObj → Value → Prop) : Prop :=
  match o.op with
  | .makeSlice t l c => match P.underlying t, evOK sl l, evOK sl c with
    | some (.slice elem), some (.int _ l), some (.int _ c) => match P.info? elem, zeroOf P elem with
      | some info, some z => match Nat.beq z.cells.toList.length info.size with
        | true => (0 ≤ l ∧ l ≤ c ∧ (info.bytes + 1) * c ≤ 2 ^ 48) ∧
          K (.cells none elem info.size (List.replicate c.toNat z.cells.toList).flatten) (.slice (some ⟨i, 0, none⟩) l.toNat c.toNat)
        | false => False
      | _, _ => False
    | _, _, _ => False
  | _ => match evA P sl o i with
    | some (ob, v) => K ob v
    | none => False
def drOp (P : Program) (cfg : Cfg) (ops : Array Oper) (b : Array Nat) (n0 i : Nat) (o : Oper) (d : Dr) (K : Dr → Prop) : Prop :=
  match d with
  | ⟨sl, ⟨m, mg, n⟩, als, effs, hist, looks⟩ => wantD (cfg.stop 0 0) ops sl o
    (fun sl => match allocOp o.op with
    | true => aX P (restrK o sl) o (n0 + i) fun ob v => K ⟨putO sl o.dst v, ⟨m, mg, n⟩, als ++ [(i, ob)], effs, hist, looks⟩
    | false => match quietOp o.op with
      | true => memLet (addAll n0 (waits als (b.getD i 0) mg) m) fun mv => qX P mv (restrK o sl) o fun v => K ⟨putO sl o.dst v, ⟨m, mg, n⟩, als, effs, hist, (i, o, restrK o sl, v) :: looks⟩
      | false => match effs.all fun e => (b.getD i 0).testBit e with
        | true => memLet (addAll n0 (waits als (b.getD i 0) mg) m) fun mv => eX P (callD P cfg) (yldD P) mv n (restrK o sl) o fun v m1 n1 =>
            K ⟨putO sl o.dst v, ⟨m1, mg ++ (waits als (b.getD i 0) mg).map (·.1), n1⟩, als, effs ++ [i], hist ++ [⟨m1, mg ++ (waits als (b.getD i 0) mg).map (·.1), n1⟩], looks⟩
        | false => False)
    (fun sl => K ⟨putO sl o.dst undef, ⟨m, mg, n⟩, als, effs, hist, looks⟩)
def drOps (P : Program) (cfg : Cfg) (ops : Array Oper) (b : Array Nat) (n0 : Nat) (K : Dr → Prop) : List (Oper × Nat) → Dr → Prop
  | [], d => K d
  | (o, i) :: l, d => drOp P cfg ops b n0 i o d fun d => drOps P cfg ops b n0 K l d
/-- A look must see the same at each stage where the order may put it. -/
def stageX (P : Program) (n0 : Nat) (als : List (Nat × AObj)) (bits lo hi own : Nat) (sl : Slots) (o : Oper) (v : Value) (K : Prop) : Nat → List Stg → Prop
  | _, [] => K
  | j, st :: l => match Nat.ble lo j && (Nat.ble j hi && !Nat.beq j own) with
    | true => (memLet (addAll n0 (waits als bits st.mg) st.m) fun mv => qX P mv sl o (fun u => u = v)) ∧ stageX P n0 als bits lo hi own sl o v K (j + 1) l
    | false => stageX P n0 als bits lo hi own sl o v K (j + 1) l
def looksX (P : Program) (b : Array Nat) (n0 : Nat) (als : List (Nat × AObj)) (effs : List Nat) (hist : List Stg) (K : Prop) : List (Nat × Oper × Slots × Value) → Prop
  | [] => K
  | (i, o, sl, v) :: l => match effs.isEmpty || stillOp o.op with
    | true => looksX P b n0 als effs hist K l
    | false => stageX P n0 als (b.getD i 0) (effs.filter fun e => (b.getD i 0).testBit e).length (effs.filter fun e => !(b.getD e 0).testBit i).length (effs.filter fun e => Nat.blt e i).length
        sl o v (looksX P b n0 als effs hist K l) 0 hist
def bigX (k : Nat) (K : Prop) : List Stg → Prop
  | [] => K
  | ⟨_, _, n⟩ :: l => k ≤ n ∧ bigX k K l
def apartX (n0 : Nat) (m : Mem) (mg : List Nat) (K : Prop) : List (Nat × AObj) → Prop
  | [] => K
  | (i, _) :: l => match mg.contains i with
    | true => apartX n0 m mg K l
    | false => m.get (n0 + i) = none ∧ apartX n0 m mg K l
def apartsX (n0 : Nat) (als : List (Nat × AObj)) (K : Prop) : List Stg → Prop
  | [] => K
  | ⟨m, mg, _⟩ :: l => apartX n0 m mg (apartsX n0 als K l) als
def drX (P : Program) (cfg : Cfg) (ops : Array Oper) (nt : Nat) (sl : Slots) (m : Mem) (n : Nat) (K : Slots → Mem → Nat → Prop) : Prop :=
  match ordX ops nt with
  | true => drOps P cfg ops (Region.before ops) n (fun d => match d with
      | ⟨sl, ⟨m, mg, n1⟩, als, effs, hist, looks⟩ =>
        looksX P (Region.before ops) n als effs hist (bigX (n + ops.size) (apartsX n als (memLet (addAll n (als.filter fun x => !mg.contains x.1) m) fun m2 => K sl m2 n1) hist.tail) hist.tail) looks)
      ops.toList.zipIdx ⟨sl, ⟨m, [], n + ops.size⟩, [], [], [⟨m, [], n + ops.size⟩], []⟩
  | false => False

def resX (P : Program) (m : Mem) (sl : Slots) (K : List Value → Prop) : List ResultVar → List Value → Prop
  | [], acc => K acc.reverse
  | .tmp t :: l, acc => match lkK sl t with
    | some v => resX P m sl K l (v :: acc)
    | none => False
  | .cell a t :: l, acc => match lkK sl a with
    | some (.pointer p) => elimP p False fun i off => ldX P m t i off fun v => resX P m sl K l (v :: acc)
    | _ => False

/-- A frame that has come to its end. -/
def unwX (P : Program) (ev : XEv) (fn : FuncId) (nt : Nat) (sl : Slots) (todo : List Item) (ds : List Deferred) (kind : CallKind) (m : Mem) (n : Nat) (Q : Value → Mem → Nat → Prop) : Prop :=
  match ds with
  | [] => match P.funcs[fn]? with
    | some f => resX P m sl (fun vs => Q (oneOf vs) m n) f.results.toList []
    | none => False
  | { target := .collected b, .. } :: ds => m.get b = some (.deferred (some [])) ∧ memLet (m.set b (.deferred none)) fun m' => ev fn nt sl todo ds true kind none m' n Q
  | { target := .fn (.func f) ⟨cap⟩, args := ⟨args⟩ } :: ds => match enterA P f (args ++ cap) .deferred with
    | some c => W P c m n fun _ m n => ev fn nt sl todo ds true kind none m n Q
    | none => False
  | _ => False

/-- A loop over a function: its block, by its place. -/
def loopO (fn : FuncId) (nt : Nat) (sl : Slots) (st : LoopState) (p : Option Code) (todo : List Item) (ds : Nat) : AObj :=
  match todo with
  | .code (.rangeFunc _ ps a b) :: _ => .loop st p fn nt sl ps.toList a b ds
  | _ => .loop st p fn nt sl [] .skip .skip ds
def roundF (fn : FuncId) (nt : Nat) (sl : Slots) (todo : List Item) (args : List Value) (l : Nat) : AFrame :=
  match todo with
  | .code (.rangeFunc _ ps a b) :: _ => ⟨fn, nt, putAll sl (ps.toList.zip args), [.code a, .beginRound, .code b], [], false, .normal, some l⟩
  | _ => ⟨fn, nt, sl, [], [], false, .normal, some l⟩
def isLp : AObj → Bool
  | .loop .. => true
  | _ => false
def lpReady : AObj → Bool
  | .loop .ready .. => true
  | _ => false
def lpSet (o : AObj) (st : LoopState) (j : Option Code) : AObj :=
  match o with
  | .loop _ _ f k s ps a b dd => .loop st j f k s ps a b dd
  | o => o
def lpBusy (o : AObj) : AObj :=
  match o with
  | .loop _ p f k s ps a b dd => .loop .busy p f k s ps a b dd
  | o => o
def isBusy : LoopState → Bool
  | .busy => true
  | _ => false
def elimJ (p : Option Code) (kn kr : Prop) (kc : Code → Prop) : Prop :=
  match p with
  | none => kn
  | some .ret => kr
  | some c => kc c

def leaveX (ev : XEv) (fn : FuncId) (nt : Nat) (sl : Slots) (todo : List Item) (ds : List Deferred) (kind : CallKind) (round : Option Nat) (m : Mem) (n : Nat) (Q : Value → Mem → Nat → Prop) (jump : Option Code) : Prop :=
  match round with
  | none => match jump with
    | none => ev fn nt sl todo ds true kind none m n Q
    | some .ret => ev fn nt sl todo ds true kind none m n Q
    | _ => False
  | some l => match kind with
    | .normal => match jump with
      | none => ∃ o, m.get l = some o ∧ isLp o = true ∧ memLet (m.set l (lpSet o .ready none)) fun m' => Q (.bool true) m' n
      | some j => ∃ o, m.get l = some o ∧ isLp o = true ∧ memLet (m.set l (lpSet o .done (some j))) fun m' => Q (.bool false) m' n
    | _ => False

/-- A condition's value, once known. -/
def refB (c : Operand) (b : Bool) (sl : Slots) : Slots :=
  match c with
  | .tmp t => put sl t (.bool b)
  | _ => sl

/-- The blocks that a piece of code may leave. -/
def exitsOf : Code → List Nat
  | .seq a b => exitsOf a ++ exitsOf b
  | .cond _ a b => exitsOf a ++ exitsOf b
  | .block id b => (exitsOf b).filter fun i => !Nat.beq i id
  | .loop b => exitsOf b
  | .scope b => exitsOf b
  | .exit id => [id]
  | .rangeFunc _ _ a b => exitsOf a ++ exitsOf b
  | _ => []
def altX : List Nat → Code → (Nat → Prop) → Prop
  | [], _, _ => False
  | i :: l, c, K => (c = .exit i ∧ K i) ∨ altX l c K
/-- Whether a region is printed for the case alone that all its guards hold. -/
def cfgOne (cfg : Cfg) (b : Bool) : Cfg := ⟨cfg.inl, cfg.keep, cfg.rv, fun _ _ => b, cfg.dyn⟩
def codeX (P : Program) (cfg : Cfg) (ev : XEv) (fn : FuncId) (nt : Nat) (sl : Slots) (k : List Item) (ds : List Deferred) (kind : CallKind) (round : Option Nat) (m : Mem) (n : Nat) (Q : Value → Mem → Nat → Prop) : Code → Prop
  | .seq a b => ev fn nt sl (.code a :: .code b :: k) ds false kind round m n Q
  | .skip => ev fn nt sl k ds false kind round m n Q
  | .label _ => ev fn nt sl k ds false kind round m n Q
  | .cond c x y => match evOK sl c with
    | some (.bool b) => cond b (ev fn nt (refB c true sl) (.code x :: k) ds false kind round m n Q) (ev fn nt (refB c false sl) (.code y :: k) ds false kind round m n Q)
    | _ => False
  | .block id body => ev fn nt sl (.code body :: .inBlock id :: k) ds false kind round m n Q
  | .loop body => W P ⟨fn, nt, pruneK (cfg.keep fn (1000000 + headId body)) sl, .code body :: .inLoop body :: k, ds, false, kind, round⟩ m n Q
  | .scope body => ev fn nt sl (.code body :: .inScope body :: k) ds false kind round m n Q
  | .exit id => match exitTo id k with
    | some k' => ev fn nt sl k' ds false kind round m n Q
    | none => leaveX ev fn nt sl (.code (.exit id) :: k) ds kind round m n Q (some (.exit id))
  | .ret => leaveX ev fn nt sl (.code .ret :: k) ds kind round m n Q (some .ret)
  | .region id ops draw => match cfg.stop fn id with
    | true => W P ⟨fn, nt, pruneK (cfg.keep fn (2000000 + id)) sl, .code (.region id ops draw) :: k, ds, false, kind, round⟩ m n Q
    | false => match draw with
    | true => drX P (cfgOne cfg (cfg.stop fn (500000 + id))) ops nt sl m n fun sl m n => ev fn nt (pruneK (cfg.keep fn id) sl) k ds false kind round m n Q
    | false => match Nat.ble (maxD (dsts ops)) nt with
      | true => regX P (clX P cfg ev) ops round (fun sl ds m n => ev fn nt (pruneK (cfg.keep fn id) sl) k ds false kind round m n Q) ops.toList sl ds m n
      | false => False
  | .rangeFunc f params assign body => match round with
    | none => match evOK sl f with
      | some (.func (.func g) ⟨first⟩ ⟨cap⟩) =>
        memLet ((m.set n (.deferred (some []))).set (n + 1) (loopO fn nt sl .ready none (.code (.rangeFunc f params assign body) :: k) n)) fun mi =>
        Wc P g (first ++ [.func (.yield (n + 1)) #[] #[]] ++ cap) mi (n + 2)
          fun _ m' n' => ∃ st p, m'.get (n + 1) = some (loopO fn nt sl st p (.code (.rangeFunc f params assign body) :: k) n) ∧ isBusy st = false ∧
            Later (memLet (m'.set (n + 1) (loopO fn nt sl .exhausted p (.code (.rangeFunc f params assign body) :: k) n)) fun me =>
              elimJ p (ev fn nt sl k ({ target := .collected n, args := #[] } :: ds) false kind none me n' Q)
              (ev fn nt sl (.code .ret :: k) ({ target := .collected n, args := #[] } :: ds) false kind none me n' Q)
              fun c => altX (exitsOf body) c fun i => ev fn nt sl (.code (.exit i) :: k) ({ target := .collected n, args := #[] } :: ds) false kind none me n' Q)
      | _ => False
    | some _ => W P ⟨fn, nt, sl, .code (.rangeFunc f params assign body) :: k, ds, false, kind, round⟩ m n Q
  | c => W P ⟨fn, nt, sl, .code c :: k, ds, false, kind, round⟩ m n Q

def itemX (P : Program) (cfg : Cfg) (ev : XEv) (fn : FuncId) (nt : Nat) (sl : Slots) (k : List Item) (ds : List Deferred) (kind : CallKind) (round : Option Nat) (m : Mem) (n : Nat) (Q : Value → Mem → Nat → Prop) : Item → Prop
  | .code c => codeX P cfg ev fn nt sl k ds kind round m n Q c
  | .inBlock _ => ev fn nt sl k ds false kind round m n Q
  | .inScope _ => ev fn nt sl k ds false kind round m n Q
  | .inLoop body => W P ⟨fn, nt, pruneK (cfg.keep fn (1000000 + headId body)) sl, .code body :: .inLoop body :: k, ds, false, kind, round⟩ m n Q
  | .beginRound => match round with
    | some l => ∃ o, m.get l = some o ∧ lpReady o = true ∧ memLet (m.set l (lpBusy o)) fun m' => ev fn nt sl k ds false kind round m' n Q
    | none => False
  | x => W P ⟨fn, nt, sl, x :: k, ds, false, kind, round⟩ m n Q

/-- The blocks of loops over functions, closed at a call's end. -/
def collD (b : Nat) : Deferred := { target := .collected b, args := #[] }
def clrAll : List Nat → Mem → Mem
  | [], m => m
  | b :: bs, m => clrAll bs (m.set b (.deferred none))
def unwL (P : Program) (fn : FuncId) (sl : Slots) (ds : List Deferred) (m : Mem) (n : Nat) (Q : Value → Mem → Nat → Prop) : Prop :=
  ∃ bs : List Nat, (ds = bs.map collD ∧ bs.Nodup ∧ ∀ b ∈ bs, m.get b = some (.deferred (some []))) ∧ match P.funcs[fn]? with
    | some f => memLet (clrAll bs m) fun m' => resX P m' sl (fun vs => Q (oneOf vs) m' n) f.results.toList []
    | none => False
/-- The mark of functions whose list of such loops is left open. -/
def openDs : Nat := 777777
def stepX (P : Program) (cfg : Cfg) (ev : XEv) : XEv := fun fn nt sl todo ds ret kind round m n Q =>
  match ret with
  | true => match round with
    | none => match cfg.stop fn openDs with
      | true => unwL P fn sl ds m n Q
      | false => unwX P ev fn nt sl todo ds kind m n Q
    | some _ => False
  | false => match todo with
    | [] => leaveX ev fn nt sl [] ds kind round m n Q none
    | x :: k => itemX P cfg ev fn nt sl k ds kind round m n Q x

def evX (P : Program) (cfg : Cfg) (fuel : Nat) : XEv :=
  @Nat.rec (fun _ => XEv) (fun fn nt sl todo ds ret kind round m n Q => W P ⟨fn, nt, sl, todo, ds, ret, kind, round⟩ m n Q) (fun _ ih => stepX P cfg ih) fuel

/-- The same, but for the first step: no stop there. -/
def ev1 (P : Program) (cfg : Cfg) (fuel : Nat) : XEv := stepX P ⟨cfg.inl, cfg.keep, cfg.rv, fun f i => match Nat.ble 500000 i with | true => cfg.stop f i | false => false, cfg.dyn⟩ (evX P cfg fuel)

/-- A call, opened. -/
def Xc (P : Program) (cfg : Cfg) (fuel : Nat) (f : FuncId) (args : List Value) (m : Mem) (n : Nat) (Q : Value → Mem → Nat → Prop) : Prop :=
  match enterA P f args .normal with
  | some fr => xF (evX P cfg fuel) fr m n Q
  | none => False
end
end Go.Ab
