/- The abstract machine, part 3: regions that draw their order; the evaluator. Definitions alone. -/
import Derived.Test.YtiomjekkmjinbaaAb2
namespace Go.Ab
open Go

mutual
def vEq : Value → Value → Bool
  | .bool a, .bool b => a == b
  | .int k a, .int l b => k == l && a == b
  | .float k a, .float l b => k == l && a == b
  | .complex k a b, .complex l c d => k == l && (a == c && b == d)
  | .string a, .string b => a == b
  | .pointer a, .pointer b => a == b
  | .slice a l c, .slice b m d => a == b && (l == m && c == d)
  | .map a, .map b => a == b
  | .chan a, .chan b => a == b
  | .func f ⟨a⟩ ⟨b⟩, .func g ⟨c⟩ ⟨d⟩ => f == g && (vEqL a c && vEqL b d)
  | .nilFunc, .nilFunc => true
  | .iface t v, .iface u w => t == u && vEq v w
  | .nilIface, .nilIface => true
  | .agg ⟨a⟩, .agg ⟨b⟩ => vEqL a b
  | .tuple ⟨a⟩, .tuple ⟨b⟩ => vEqL a b
  | _, _ => false
def vEqL : List Value → List Value → Bool
  | [], [] => true
  | a :: l, b :: m => vEq a b && vEqL l m
  | _, _ => false
end

abbrev Res := Option (List (Value × Mem × Nat))

def opTmps (o : Oper) : List Tmp := o.op.operands.toList.filterMap fun | .tmp t => some t | _ => none
/-- The slots that an operation's operands name. -/
def restr (o : Oper) (sl : Slots) : Slots := (opTmps o).filterMap fun t => (lk sl t).map fun v => (t, v)
/-- The slots that an operation names: its operands', its own, its guard's. -/
def named (ops : Array Oper) (o : Oper) : List Tmp :=
  o.dst.toList ++ (opTmps o ++ match o.guard with
    | some (j, _) => ((ops[j]?).bind (·.dst)).toList
    | none => [])

/-- A stage of the chain of effects: its memory, the allocations merged into it, the next block. -/
structure Stg where
  m : Mem
  mg : List Nat
  n : Nat

/-- The state in the text's order. -/
structure Dr where
  sl : Slots
  st : Stg
  als : List (Nat × AObj)
  effs : List Nat
  hist : List Stg
  looks : List (Nat × Oper × Slots × Value)

def addAll (n0 : Nat) : List (Nat × AObj) → Mem → Mem
  | [], m => m
  | (k, o) :: l, m => addAll n0 l (m.set (n0 + k) o)

/-- The allocations that are there at a stage for whoever comes behind the operations in bits, and not yet merged. -/
def waits (als : List (Nat × AObj)) (bits : Nat) (mg : List Nat) : List (Nat × AObj) :=
  als.filter fun x => bits.testBit x.1 && !mg.contains x.1

def drawEff (P : Program) (rec : AFrame → Mem → Nat → Res) (m : Mem) (n : Nat) (sl : Slots) (o : Oper) : Option (Value × Mem × Nat) :=
  match evE P m n sl o with
  | .val v m n => some (v, m, n)
  | .call f args => match enterA P f args .normal with
    | some c => match rec c m n with
      | some [r] => some r
      | _ => none
    | none => none
  | .yield l args => match roundA m l args with
    | some c => match rec c m n with
      | some [r] => some r
      | _ => none
    | none => none
  | _ => none

def drawOp (P : Program) (rec : AFrame → Mem → Nat → Res) (ops : Array Oper) (b : Array Nat) (n0 : Nat) (i : Nat) (o : Oper) (d : Dr) : Option Dr :=
  let bits := b.getD i 0
  let slR := restr o d.sl
  match wantedA ops d.sl o with
  | none => none
  | some false => some { d with sl := putO d.sl o.dst undef }
  | some true =>
    if allocOp o.op then
      match evA P slR o (n0 + i) with
      | some (ob, v) => some { d with sl := putO d.sl o.dst v, als := d.als ++ [(i, ob)] }
      | none => none
    else
      let w := waits d.als bits d.st.mg
      let view := addAll n0 w d.st.m
      if quietOp o.op then
        match evQ P view slR o with
        | some v => some { d with sl := putO d.sl o.dst v, looks := (i, o, slR, v) :: d.looks }
        | none => none
      else if d.effs.all (fun e => bits.testBit e) then
        match drawEff P rec view d.st.n slR o with
        | some (v, m, n) =>
          let st : Stg := ⟨m, d.st.mg ++ w.map (·.1), n⟩
          some { d with sl := putO d.sl o.dst v, st := st, effs := d.effs ++ [i], hist := d.hist ++ [st] }
        | none => none
      else none

def drawOps (P : Program) (rec : AFrame → Mem → Nat → Res) (ops : Array Oper) (b : Array Nat) (n0 : Nat) : List (Oper × Nat) → Dr → Option Dr
  | [], d => some d
  | (o, i) :: l, d => match drawOp P rec ops b n0 i o d with
    | some d' => drawOps P rec ops b n0 l d'
    | none => none

/-- A quiet operation's value is the same wherever the order may put it among the effects. -/
def lookOk (P : Program) (b : Array Nat) (n0 : Nat) (d : Dr) (x : Nat × Oper × Slots × Value) : Bool :=
  match x with
  | (i, o, sl, v) =>
    let bits := b.getD i 0
    let lo := (d.effs.filter fun e => bits.testBit e).length
    let hi := (d.effs.filter fun e => !(b.getD e 0).testBit i).length
    d.hist.zipIdx.all fun (st, j) =>
      if lo ≤ j ∧ j ≤ hi then
        match evQ P (addAll n0 (waits d.als bits st.mg) st.m) sl o with
        | some u => vEq u v
        | none => false
      else true

/-- Whoever names a slot that another writes comes before it or behind it; what comes before comes earlier in the text. -/
def orderOk (ops : Array Oper) (b : Array Nat) (nt : Nat) : Bool :=
  ops.toList.zipIdx.all fun (o, i) =>
    dstOk nt o.dst && (o.after.all fun e => decide (e.on < i) || !Region.binds .any e) &&
    (let nm := named ops o
     ops.toList.zipIdx.all fun (d, j) =>
      i == j || match d.dst with
        | none => true
        | some t => !nm.contains t || (b.getD (max i j) 0).testBit (min i j))

/-- A region that draws its order, carried out in the text's; nothing if the order could be seen. -/
def drawA (P : Program) (rec : AFrame → Mem → Nat → Res) (ops : Array Oper) (nt : Nat) (sl : Slots) (m : Mem) (n : Nat) : Option (Slots × Mem × Nat) :=
  let b := Region.before ops
  let st : Stg := ⟨m, [], n + ops.size⟩
  match drawOps P rec ops b n ops.toList.zipIdx { sl := sl, st := st, als := [], effs := [], hist := [st], looks := [] } with
  | some d =>
    if orderOk ops b nt && (d.effs.isEmpty || d.looks.all fun x => stillOp x.2.1.op || lookOk P b n d x) &&
       (d.hist.all fun st => decide (n + ops.size ≤ st.n)) && (d.als.isEmpty || d.hist.all fun st => d.als.all fun x => st.mg.contains x.1 || (st.m.get (n + x.1)).isNone) then
      some (d.sl, addAll n (d.als.filter fun x => !d.st.mg.contains x.1) d.st.m, d.st.n)
    else none
  | none => none

def bindAll : List (Value × Mem × Nat) → (Value → Mem → Nat → Res) → Res
  | [], _ => some []
  | (v, m, n) :: l, f => match f v m n with
    | none => none
    | some a => match bindAll l f with
      | none => none
      | some b => some (a ++ b)

def bindFr : List (AFrame × Mem × Nat) → (AFrame → Mem → Nat → Res) → Res
  | [], _ => some []
  | (v, m, n) :: l, f => match f v m n with
    | none => none
    | some a => match bindFr l f with
      | none => none
      | some b => some (a ++ b)

def evalF (P : Program) (keep : FuncId → Option (List Nat)) : Nat → AFrame → Mem → Nat → Res
  | 0, _, _, _ => none
  | f + 1, fr, m, n => match stepA P keep fr m n with
    | .go fr m n => evalF P keep f fr m n
    | .call c fr m n => match evalF P keep f c m n with
      | none => none
      | some rs => bindAll rs fun v m n => evalF P keep f (afterA c.kind fr v) m n
    | .alts l => bindFr l fun fr m n => evalF P keep f fr m n
    | .draw ops fr m n => match drawA P (evalF P keep f) ops fr.nt fr.slots m n with
      | some (sl, m, n) => evalF P keep f { fr with slots := prune (keep fr.fn) sl } m n
      | none => none
    | .ret v m n => some [(v, m, n)]
    | .fail => none

def evalCall (P : Program) (keep : FuncId → Option (List Nat)) (fuel : Nat) (f : FuncId) (args : List Value) (m : Mem) (n : Nat) : Res :=
  match enterA P f args .normal with
  | some fr => evalF P keep fuel fr m n
  | none => none
end Go.Ab
