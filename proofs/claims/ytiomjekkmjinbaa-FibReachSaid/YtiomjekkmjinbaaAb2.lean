/- The abstract machine, part 2: operations that write or make memory, frames, the evaluator. Definitions alone. -/
import Derived.Test.YtiomjekkmjinbaaAb1
namespace Go.Ab
open Go

inductive Eff where
  | val (v : Value) (m : Mem) (n : Nat)
  | call (f : FuncId) (args : List Value)
  | yield (l : Nat) (args : List Value)
  | dfr (d : Deferred)
  | alts (l : List (Value × Mem × Nat))
  | fail

/-- What an allocation lays: the object and the value that names block i. -/
def evA (P : Program) (sl : Slots) (o : Oper) (i : Nat) : Option (AObj × Value) :=
  match o.op with
  | .alloc elem => match zeroOf P elem, szOf P elem with
    | some z, some sz => some (.cells none elem sz z.cells.toList, .pointer (some ⟨i, 0, none⟩))
    | _, _ => none
  | .box elem x => match evO sl x, szOf P elem with
    | some v, some sz => some (.cells none elem sz v.cells.toList, .pointer (some ⟨i, 0, none⟩))
    | _, _ => none
  | .buildSlice t len parts => match P.underlying t, evParts sl parts.toList with
    | some (.slice elem), some ps => match szOf P elem, zeroOf P elem with
      | some sz, some z =>
        if len * sz ≤ 2 ^ 24 ∧ z.cells.toList.length = sz then
          match fillA (fun j => some (j * sz, sz)) (List.replicate len z.cells.toList).flatten ps with
          | some cs => some (.cells none elem sz cs, .slice (some ⟨i, 0, none⟩) len len)
          | none => none
        else none
      | _, _ => none
    | _, _ => none
  | .makeSlice t l c => match P.underlying t, evO sl l, evO sl c with
    | some (.slice elem), some (.int _ l), some (.int _ c) => match P.info? elem, zeroOf P elem with
      | some info, some z =>
        if 0 ≤ l ∧ l ≤ c ∧ (info.bytes + 1) * c ≤ 2 ^ 48 ∧ z.cells.toList.length = info.size then
          some (.cells none elem info.size (List.replicate c.toNat z.cells.toList).flatten, .slice (some ⟨i, 0, none⟩) l.toNat c.toNat)
        else none
      | _, _ => none
    | _, _, _ => none
  | .makeMap _ none => some (.map [] 0, .map (some i))
  | .range t x => match P.underlying t, evO sl x with
    | some (.map _ _), some (.map none) => some (.iter none 0 [] none, .pointer (some ⟨i, 0, none⟩))
    | _, _ => none
  | _ => none

def cellOk : Value → Bool
  | .agg _ | .tuple _ => false
  | _ => true

/-- Writing cells into an abstract block that may be written. -/
def storeCs (m : Mem) (i off : Nat) (vs : List Value) : Option Mem :=
  match m.get i with
  | some (.cells none elem esz cs) =>
    if off + vs.length ≤ cs.length ∧ vs.all cellOk then
      some (m.set i (.cells none elem esz (cs.take off ++ (vs ++ cs.drop (off + vs.length)))))
    else none
  | _ => none

/-- The true offset of a slice. -/
def offOf (o : Nat) : Option Nat → Nat
  | none => o
  | some t => t

/-- The cells of a slice's first k elements of sz cells. -/
def sliceCells (m : Mem) (sz k : Nat) : Value → Option (List Value)
  | .slice none _ _ => if k = 0 then some [] else none
  | .slice (some ⟨i, o, s⟩) len cap =>
    if k ≤ len then
      match cellsOf m i, s with
      | some cs, none => takeAt cs o (k * sz)
      | some cs, some t => if 0 < cap ∨ k = 0 then takeAt cs t (k * sz) else none
      | none, _ => none
    else none
  | _ => none

/-- What is appended: how many elements, which cells. -/
def appArg (m : Mem) (z : Value) (info : TypeInfo) (u1 : TypeDesc) (x : Value) : Option (Nat × List Value) :=
  match u1, x with
  | .int _, .int _ c => if 0 ≤ c ∧ c ≤ 2 ^ 30 ∧ c * info.bytes ≤ 2 ^ 48 then some (c.toNat, (List.replicate c.toNat z.cells.toList).flatten) else none
  | .int _, _ => none
  | _, .slice a k cap => (sliceCells m info.size k (.slice a k cap)).map fun cs => (k, cs)
  | _, _ => none

def appendA (P : Program) (m : Mem) (n : Nat) (t0 t1 : TypeId) (s x : Value) : Eff :=
  match P.underlying t0 with
  | some (.slice elem) =>
    match P.info? elem, zeroOf P elem, P.underlying t1 with
    | some info, some z, some u1 =>
      let sz := info.size
      if ¬ z.cells.toList.length = sz then .fail else
      match appArg m z info u1 x with
      | none => .fail
      | some (k, xs) =>
        if ¬ (xs.all cellOk = true) then .fail else
        match s with
        | .slice none len cap =>
          if len ≠ 0 ∨ cap ≠ 0 then .fail else
          if k = 0 then .val s m n else
          if (2 * k + 256) * info.bytes ≤ 2 ^ 48 ∧ k ≤ 2 ^ 40 then
            .val (.slice (some ⟨n, 0, some 0⟩) k k) (m.set n (.cells none elem sz xs)) (n + 1)
          else .fail
        | .slice (some ⟨i, o, sp⟩) len cap =>
          if len + k ≤ cap then
            if k = 0 then .val s m n else
            match storeCs m i ((offOf o sp) + len * sz) xs with
            | some m' => .val (.slice (some ⟨i, o, sp⟩) (len + k) cap) m' n
            | none => .fail
          else if ¬ len ≤ cap then .fail else
          if (2 * (len + k) + 256) * info.bytes ≤ 2 ^ 48 ∧ len + k ≤ 2 ^ 40 then
            match sliceCells m sz len s with
            | some old =>
              match sp with
              | none => .val (.slice (some ⟨n, 0, some 0⟩) (len + k) (len + k)) (m.set n (.cells none elem sz (old ++ xs))) (n + 1)
              | some t => match m.get i with
                | some (.cells none e' sz' cs) =>
                  if t + cap * sz = cs.length ∧ e' = elem ∧ sz' = sz then
                    .val (.slice (some ⟨n, 0, some 0⟩) (len + k) (len + k)) ((m.del i).set n (.cells none elem sz (old ++ xs))) (n + 1)
                  else .fail
                | _ => .fail
            | none => .fail
          else .fail
        | _ => .fail
    | _, _, _ => .fail
  | _ => .fail

def setKey (es : List (Value × Value)) (kk : IntKind) (kn : Int) (v : Value) : List (Value × Value) :=
  es.map fun e => if keyIs kk kn e.1 then (e.1, v) else e

def intKey : Value × Value → Bool
  | (.int _ _, _) => true
  | _ => false

/-- The method that an interface value's dynamic type has under a name (methods of the type's own alone). -/
def methodA (P : Program) (m : Mem) (t : TypeId) (v : Value) (name : String) : Option (FuncId × Value) :=
  match P.info? t with
  | none => none
  | some info => match info.methods.find? (·.name == name) with
    | none => none
    | some me => match me.path.toList, me.func, P.underlying t with
      | [], some (f, true), some (.pointer _) => some (f, v)
      | [], some (f, false), some (.pointer e) => (loadA P m e v).map fun x => (f, x)
      | [], some (f, false), some _ => some (f, v)
      | _, _, _ => none

def calleeA (v : Value) (args : List Value) : Eff :=
  match v with
  | .func (.func f) ⟨first⟩ ⟨cap⟩ => .call f (first ++ args ++ cap)
  | .func (.yield l) ⟨first⟩ _ => .yield l (first ++ args)
  | _ => .fail

/-- The operations that write, make memory or call. -/
def evE (P : Program) (m : Mem) (n : Nat) (sl : Slots) (o : Oper) : Eff :=
  match o.op with
  | .alloc _ | .box .. | .buildSlice .. | .makeSlice .. | .makeMap .. =>
    match evA P sl o n with
    | some (ob, v) => .val v (m.set n ob) (n + 1)
    | none => .fail
  | .range t x => match P.underlying t, evO sl x with
    | some (.map _ _), some (.map none) => .val (.pointer (some ⟨n, 0, none⟩)) (m.set n (.iter none 0 [] none)) (n + 1)
    | some (.map _ _), some (.map (some r)) => match m.get r with
      | some (.map es clk) => if es.all intKey then .val (.pointer (some ⟨n, 0, none⟩)) (m.set n (.iter (some r) clk (es.map (·.1)) none)) (n + 1) else .fail
      | _ => .fail
    | _, _ => .fail
  | .next it false => match evO sl it with
    | some (.pointer (some ⟨r, 0, none⟩)) => match m.get r with
      | some (.iter none _ _ _) => .val (.tuple #[.bool false]) m n
      | some (.iter (some mp) since left _) => match m.get mp with
        | some (.map es clk) =>
          if clk = since ∧ es.all intKey = true then
            match es.filter (fun e => left.any fun k => match k with | .int kk kn => keyIs kk kn e.1 | _ => false) with
            | [] => .val (.tuple #[.bool false]) m n
            | cands => .alts (cands.map fun e => (.tuple #[.bool true, e.1, e.2],
                m.set r (.iter (some mp) since (left.filter fun k => match e.1 with | .int kk kn => !keyIs kk kn k | _ => false) (some e.1)), n))
          else .fail
        | _ => .fail
      | _ => .fail
    | _ => .fail
  | .store t a x => match evO sl a, evO sl x, szOf P t with
    | some (.pointer (some ⟨i, off, none⟩)), some v, some sz =>
      if v.cells.toList.length = sz then
        match storeCs m i off v.cells.toList with
        | some m' => .val undef m' n
        | none => .fail
      else .fail
    | _, _, _ => .fail
  | .mapUpdate t mp k x | .insert t mp k x => match P.underlying t, evO sl mp, evO sl k, evO sl x with
    | some (.map kt _), some (.map (some r)), some (.int kk kn), some v => match P.underlying kt, m.get r with
      | some (.int _), some (.map es clk) =>
        if es.all (fun e => keyOf kk e.1) then
          if es.any (fun e => keyIs kk kn e.1) then .val undef (m.set r (.map (setKey es kk kn v) clk)) n
          else .val undef (m.set r (.map (es ++ [(.int kk kn, v)]) (clk + 1))) n
        else .fail
      | _, _ => .fail
    | _, _, _, _ => .fail
  | .call { callee := .builtin .append, args, argTypes } => match argTypes.toList, evs sl args.toList with
    | [t0, t1], some [s, x] => appendA P m n t0 t1 s x
    | _, _ => .fail
  | .call { callee := .builtin .copy, args, argTypes } => match argTypes.toList, evs sl args.toList with
    | [t0, _], some [.slice a len cap, .slice b k kcap] => match P.underlying t0 with
      | some (.slice elem) => match szOf P elem with
        | some sz => match sliceCells m sz (min k len) (.slice b k kcap), a with
          | some _, none => .val (.int .i64 (min k len : Nat)) m n
          | some cs, some ⟨i, o, sp⟩ =>
            if min k len = 0 then .val (.int .i64 0) m n else
            if 0 < cap then
              match storeCs m i (offOf o sp) cs with
              | some m' => .val (.int .i64 (min k len : Nat)) m' n
              | none => .fail
            else .fail
          | none, _ => .fail
        | none => .fail
      | _ => .fail
    | _, _ => .fail
  | .call { callee := .builtin .clear, args, argTypes } => match argTypes.toList, evs sl args.toList with
    | [t0], some [.slice a len cap] => match P.underlying t0 with
      | some (.slice elem) => match szOf P elem, zeroOf P elem, a with
        | some _, some _, none => .val (.tuple #[]) m n
        | some sz, some z, some ⟨i, o, sp⟩ =>
          if len = 0 then .val (.tuple #[]) m n else
          if z.cells.toList.length = sz ∧ 0 < cap then
            match storeCs m i (offOf o sp) (List.replicate len z.cells.toList).flatten with
            | some m' => .val (.tuple #[]) m' n
            | none => .fail
          else .fail
        | _, _, _ => .fail
      | _ => .fail
    | _, _ => .fail
  | .call { callee := .value f, args, .. } => match evO sl f, evs sl args.toList with
    | some fv, some vs => calleeA fv vs
    | _, _ => .fail
  | .call { callee := .invoke recv name, args, .. } => match evO sl recv, evs sl args.toList with
    | some (.iface t v), some vs => match methodA P m t v name with
      | some (f, r) => .call f (r :: vs)
      | none => .fail
    | _, _ => .fail
  | .defer { callee := .value f, args, .. } => match evO sl f, evs sl args.toList with
    | some (.func (.func g) ⟨first⟩ cap), some vs => .dfr { target := .fn (.func g) cap, args := ⟨first ++ vs⟩ }
    | _, _ => .fail
  | _ => .fail

/-- Does an operation at most read memory? -/
def quietOp : Op → Bool
  | .move _ | .assign _ | .pick .. | .nilCheck _ | .binOp .. | .unOp .. | .convert .. | .makeInterface .. | .makeFunc .. | .build .. | .field .. | .fieldAddr .. | .indexAddr ..
  | .index .. | .slice .. | .extract .. | .typeAssert .. | .load .. | .lookup .. | .entry _ => true
  | .call { callee := .builtin .len, .. } | .call { callee := .builtin .max, .. } | .call { callee := .builtin .min, .. } => true
  | _ => false
/-- Does it read memory? -/
def looksOp : Op → Bool
  | .load .. | .lookup .. | .entry _ => true
  | .fieldAddr .. => true
  | .call { callee := .builtin .len, .. } => true
  | _ => false
/-- Quiet operations whose value no memory settles. -/
def stillOp : Op → Bool
  | .move _ | .assign _ | .pick .. | .nilCheck _ | .unOp .. | .convert .. | .makeInterface .. | .makeFunc .. | .build .. | .field .. | .index .. | .slice .. | .extract .. | .typeAssert .. => true
  | _ => false
def allocOp : Op → Bool
  | .alloc _ | .box .. | .buildSlice .. | .makeSlice .. | .makeMap _ none => true
  | _ => false

def evOp (P : Program) (m : Mem) (n : Nat) (sl : Slots) (o : Oper) : Eff :=
  if quietOp o.op then
    match evQ P m sl o with
    | some v => .val v m n
    | none => .fail
  else evE P m n sl o

/-- Is a guarded operation carried out? -/
def wantedA (ops : Array Oper) (sl : Slots) (o : Oper) : Option Bool :=
  match o.guard with
  | none => some true
  | some (j, want) => match (ops[j]?).bind (·.dst) with
    | some t => match lk sl t with
      | some (.bool b) => some (b == want)
      | some _ => some false
      | none => none
    | none => some false

inductive Out where
  | go (fr : AFrame) (m : Mem) (n : Nat)
  | call (callee fr : AFrame) (m : Mem) (n : Nat)
  | alts (l : List (AFrame × Mem × Nat))
  | draw (ops : Array Oper) (fr : AFrame) (m : Mem) (n : Nat)
  | ret (v : Value) (m : Mem) (n : Nat)
  | fail

def prune (keep : Option (List Nat)) (sl : Slots) : Slots :=
  match keep with
  | none => sl
  | some ks => ks.filterMap fun t => (lk sl t).map fun v => (t, v)

def finA (fr : AFrame) (v : Value) : AFrame :=
  match fr.todo with
  | .inRegion ops (i :: rest) :: k => { fr with slots := putO fr.slots ((ops[i]?).bind (·.dst)) v, todo := .inRegion ops rest :: k }
  | .inRangeFunc l :: k => { fr with todo := .endRangeFunc l :: k }
  | .beginRound :: k => { fr with todo := k }
  | _ => fr

def enum : Nat → List Value → Slots
  | _, [] => []
  | i, v :: l => (i, v) :: enum (i + 1) l

def enterA (P : Program) (f : FuncId) (args : List Value) (kind : CallKind) : Option AFrame :=
  match P.funcs[f]? with
  | some fn => match fn.body with
    | some c => if fn.name = "runtime.NumGoroutine" then none else
      some { fn := f, nt := args.length + (fn.ntmps - args.length), slots := enum 0 args, todo := [.code c], kind := kind }
    | none => none
  | none => none

def putAll : Slots → List (Tmp × Value) → Slots
  | sl, [] => sl
  | sl, (t, v) :: l => putAll (put sl t v) l

def roundA (m : Mem) (l : Nat) (args : List Value) : Option AFrame :=
  match m.get l with
  | some (.loop _ _ fn nt slots params assign body _) =>
    if args.length = params.length ∧ params.all (fun t => Nat.blt t nt) then
      some { fn := fn, nt := nt, slots := putAll slots (params.zip args), todo := [.code assign, .beginRound, .code body], round := some l }
    else none
  | _ => none

def dstOk (nt : Nat) : Option Tmp → Bool
  | none => true
  | some t => Nat.blt t nt

/-- Carrying out operation i of the region on top. -/
def operA (P : Program) (fr : AFrame) (o : Oper) (m : Mem) (n : Nat) : Out :=
  match evOp P m n fr.slots o with
  | .val v m n => .go (finA fr v) m n
  | .call f args => match enterA P f args .normal with
    | some c => .call c fr m n
    | none => .fail
  | .yield l args => match roundA m l args with
    | some c => .call c fr m n
    | none => .fail
  | .dfr d => match fr.round with
    | none => .go (finA { fr with defers := d :: fr.defers } undef) m n
    | some _ => .fail
  | .alts l => .alts (l.map fun (v, m, n) => (finA fr v, m, n))
  | .fail => .fail

def leaveA (fr : AFrame) (m : Mem) (n : Nat) (jump : Option Code) : Out :=
  match fr.round with
  | none => match jump with
    | none | some .ret => .go { fr with ret := true } m n
    | _ => .fail
  | some l => match m.get l, fr.kind with
    | some (.loop _ _ fn nt slots params assign body ds), .normal =>
      .ret (.bool jump.isNone) (m.set l (.loop (if jump.isNone then .ready else .done) jump fn nt slots params assign body ds)) n
    | _, _ => .fail

def resultsA (P : Program) (m : Mem) (sl : Slots) : List ResultVar → Option (List Value)
  | [] => some []
  | .tmp t :: l => match lk sl t, resultsA P m sl l with
    | some v, some vs => some (v :: vs)
    | _, _ => none
  | .cell a t :: l => match lk sl a, resultsA P m sl l with
    | some x, some vs => match loadA P m t x with
      | some v => some (v :: vs)
      | none => none
    | _, _ => none

def oneOf : List Value → Value
  | [v] => v
  | vs => .tuple ⟨vs⟩

def unwindA (P : Program) (fr : AFrame) (m : Mem) (n : Nat) : Out :=
  match fr.defers with
  | { target := .collected b, .. } :: ds => match m.get b with
    | some (.deferred (some calls)) => .go { fr with defers := calls ++ ds } (m.set b (.deferred none)) n
    | _ => .fail
  | { target := .fn (.func f) ⟨cap⟩, args := ⟨args⟩ } :: ds => match enterA P f (args ++ cap) .deferred with
    | some c => .call c { fr with defers := ds } m n
    | none => .fail
  | _ :: _ => .fail
  | [] => match P.funcs[fr.fn]? with
    | some fn => match resultsA P m fr.slots fn.results.toList with
      | some vs => .ret (oneOf vs) m n
      | none => .fail
    | none => .fail

/-- One step. -/
def stepA (P : Program) (keep : FuncId → Option (List Nat)) (fr : AFrame) (m : Mem) (n : Nat) : Out :=
  if fr.ret then
    match fr.round with
    | none => unwindA P fr m n
    | some _ => .fail
  else
  match fr.todo with
  | [] => leaveA fr m n none
  | .code c :: k => match c with
    | .ret => leaveA fr m n (some .ret)
    | .skip | .label _ => .go { fr with todo := k } m n
    | .seq a b => .go { fr with todo := .code a :: .code b :: k } m n
    | .cond c x y => match evO fr.slots c with
      | some (.bool true) => .go { fr with todo := .code x :: k } m n
      | some (.bool false) => .go { fr with todo := .code y :: k } m n
      | _ => .fail
    | .block id body => .go { fr with todo := .code body :: .inBlock id :: k } m n
    | .loop body => .go { fr with todo := .code body :: .inLoop body :: k } m n
    | .scope body => .go { fr with todo := .code body :: .inScope body :: k } m n
    | .exit id => match exitTo id k with
      | some k' => .go { fr with todo := k' } m n
      | none => leaveA fr m n (some (.exit id))
    | .goto l => match gotoIn l k with
      | some k' => .go { fr with todo := k' } m n
      | none => leaveA fr m n (some (.goto l))
    | .rangeFunc f params assign body => match fr.round, evO fr.slots f with
      | none, some (.func (.func g) ⟨first⟩ ⟨cap⟩) =>
        match enterA P g (first ++ [.func (.yield (n + 1)) #[] #[]] ++ cap) .normal with
        | some c => .call c { fr with todo := .inRangeFunc (n + 1) :: k, defers := { target := .collected n, args := #[] } :: fr.defers }
            ((m.set n (.deferred (some []))).set (n + 1) (.loop .ready none fr.fn fr.nt fr.slots params.toList assign body n)) (n + 2)
        | none => .fail
      | some l, some (.func (.func g) ⟨first⟩ ⟨cap⟩) => match m.get l with
        | some (.loop _ _ _ _ _ _ _ _ ds) =>
          match enterA P g (first ++ [.func (.yield n) #[] #[]] ++ cap) .normal with
          | some c => .call c { fr with todo := .inRangeFunc n :: k }
              (m.set n (.loop .ready none fr.fn fr.nt fr.slots params.toList assign body ds)) (n + 1)
          | none => .fail
        | _ => .fail
      | _, _ => .fail
    | .region _ ops draw => if draw then .draw ops { fr with todo := k } m n else .go { fr with todo := .inRegion ops (List.range ops.size) :: k } m n
    | .refuse _ => .fail
  | .inBlock _ :: k | .inScope _ :: k => .go { fr with todo := k } m n
  | .inLoop body :: k => .go { fr with todo := .code body :: .inLoop body :: k } m n
  | .inRegion _ [] :: k => .go { fr with todo := k, slots := prune (keep fr.fn) fr.slots } m n
  | .inRegion ops (i :: _) :: _ => match ops[i]? with
    | some o => if dstOk fr.nt o.dst then
        match wantedA ops fr.slots o with
        | some true => operA P fr o m n
        | some false => .go (finA fr undef) m n
        | none => .fail
      else .fail
    | none => .fail
  | .beginRound :: k => match fr.round with
    | some l => match m.get l with
      | some (.loop .ready p fn nt slots params assign body ds) => .go { fr with todo := k } (m.set l (.loop .busy p fn nt slots params assign body ds)) n
      | _ => .fail
    | none => .fail
  | .endRangeFunc l :: k => match m.get l with
    | some (.loop st p fn nt slots params assign body ds) =>
      match st with
      | .busy => .fail
      | _ => .go { fr with todo := (p.map Item.code).toList ++ k } (m.set l (.loop .exhausted p fn nt slots params assign body ds)) n
    | _ => .fail
  | _ => .fail

/-- The frame that a call's end leaves its caller. -/
def afterA (kind : CallKind) (fr : AFrame) (v : Value) : AFrame :=
  match kind with
  | .deferred => fr
  | _ => finA fr v
end Go.Ab
