/- The evaluator once more, cut into small functions: the kernel then carries little at each step. Equal to the first. -/
import Derived.Test.YtiomjekkmjinbaaAb24
namespace Go.Ab
open Go
set_option linter.unusedVariables false

noncomputable section
/-- A slot's value, by bare recursors. -/
def lkK (sl : Slots) (s : Nat) : Option Value :=
  @List.rec (Nat × Value) (fun _ => Option Value) none (fun a _ ih => @Bool.rec (fun _ => Option Value) ih (some a.2) (Nat.beq a.1 s)) sl
theorem lkK_eq (sl : Slots) (s : Nat) : lkK sl s = lk sl s := by
  induction sl with
  | nil => rfl
  | cons a l ih =>
    obtain ⟨t, v⟩ := a
    show @Bool.rec (fun _ => Option Value) (lkK l s) (some v) (Nat.beq t s) = if t = s then some v else lk l s
    rw [ih]
    cases h : Nat.beq t s with
    | true => rw [if_pos (Nat.eq_of_beq_eq_true h)]
    | false => rw [if_neg (Nat.ne_of_beq_eq_false h)]
def evOK (sl : Slots) : Operand → Option Value
  | .tmp t => lkK sl t
  | .const v => bif blw Dm.none v then some v else none
  | .global _ => none
  | .func f => some (.func (.func f) #[] #[])
theorem evOK_eq : evOK = evO := by
  funext sl x
  cases x with
  | tmp t => exact lkK_eq sl t
  | const v =>
    simp only [evOK, evO]
    cases blw Dm.none v <;> rfl
  | _ => rfl
def evsK (sl : Slots) : List Operand → Option (List Value)
  | [] => some []
  | x :: l => match evOK sl x, evsK sl l with
    | some v, some vs => some (v :: vs)
    | _, _ => none
theorem evsK_eq : evsK = evs := by
  funext sl l
  induction l with
  | nil => rfl
  | cons x l ih => simp only [evsK, evs, evOK_eq, ih]; rfl
def evPartsK (sl : Slots) : List (Nat × Operand) → Option (List (Nat × Value))
  | [] => some []
  | (i, x) :: l => match evOK sl x, evPartsK sl l with
    | some v, some vs => some ((i, v) :: vs)
    | _, _ => none
theorem evPartsK_eq : evPartsK = evParts := by
  funext sl l
  induction l with
  | nil => rfl
  | cons x l ih => obtain ⟨i, x⟩ := x; simp only [evPartsK, evParts, evOK_eq, ih]; rfl
def wantK (ops : Array Oper) (sl : Slots) (o : Oper) : Option Bool :=
  match o.guard with
  | none => some true
  | some (j, want) => match (ops[j]?).bind (·.dst) with
    | some t => match lkK sl t with
      | some (.bool b) => some (b == want)
      | some _ => some false
      | none => none
    | none => some false
theorem wantK_eq (ops : Array Oper) (sl : Slots) (o : Oper) : wantK ops sl o = wantedA ops sl o := by
  unfold wantK wantedA
  simp only [lkK_eq]
  rfl
def restrK (o : Oper) (sl : Slots) : Slots := (opTmps o).filterMap fun t => (lkK sl t).map fun v => (t, v)
theorem restrK_eq (o : Oper) (sl : Slots) : restrK o sl = restr o sl := by
  unfold restrK restr
  simp only [lkK_eq]

def xq_pick (P : Program) (m : Mem) (sl : Slots) (c : Operand) (a : Operand) (b : Operand) : Option Value := match evOK sl c with
    | some (.bool true) => evOK sl a
    | some (.bool false) => evOK sl b
    | _ => none
def xq_nilCheck (P : Program) (m : Mem) (sl : Slots) (x : Operand) : Option Value := match evOK sl x with
    | some (.pointer (some a)) => some (.pointer (some a))
    | some (.iface t v) => some (.iface t v)
    | some (.func (.func f) a b) => some (.func (.func f) a b)
    | some (.func (.yield f) a b) => some (.func (.yield f) a b)
    | _ => none
def xq_binOp (P : Program) (m : Mem) (sl : Slots) (op : BinOp) (t : TypeId) (x : Operand) (y : Operand) : Option Value := match evOK sl x, evOK sl y with
    | some a, some b => binA P m op t a b
    | _, _ => none
def xq_unOp (P : Program) (m : Mem) (sl : Slots) (op : UnOp) (x : Operand) : Option Value := match evOK sl x with
    | some a => unA op a
    | none => none
def xq_convert (P : Program) (m : Mem) (sl : Slots) (src : TypeId) (dst : TypeId) (x : Operand) : Option Value := match evOK sl x, P.underlying dst, P.underlying src with
    | some (.int _ n), some (.int k), some _ => some (.int k (k.wrap n))
    | some (.string s), some .string, some _ => some (.string s)
    | _, _, _ => none
def xq_makeInterface (P : Program) (m : Mem) (sl : Slots) (t : TypeId) (x : Operand) : Option Value := match evOK sl x, P.underlying t with
    | some _, some (.interface _) => none
    | some v, some _ => some (.iface t v)
    | _, _ => none
def xq_makeFunc (P : Program) (m : Mem) (sl : Slots) (fn : Fn) (first : (Array Operand)) (captured : (Array Operand)) : Option Value := match evsK sl first.toList, evsK sl captured.toList with
    | some a, some b => match fn with
      | .func _ => some (.func fn ⟨a⟩ ⟨b⟩)
      | _ => none
    | _, _ => none
def xq_build (P : Program) (m : Mem) (sl : Slots) (t : TypeId) (parts : (Array (Nat × Operand))) : Option Value := match zeroOf P t, evPartsK sl parts.toList with
    | some z, some ps => match P.underlying t with
      | some (.struct fields) =>
        match fillA (placeF P fields) z.cells.toList ps with
        | some cs => if fields.all (fun f => (szOf P f.type).isSome) then some (.agg ⟨cs⟩) else none
        | none => none
      | some (.array _ elem) => match szOf P elem with
        | some sz => match fillA (fun i => some (i * sz, sz)) z.cells.toList ps with
          | some cs => some (.agg ⟨cs⟩)
          | none => none
        | none => none
      | _ => none
    | _, _ => none
def xq_field (P : Program) (m : Mem) (sl : Slots) (t : TypeId) (x : Operand) (f : Nat) : Option Value := match P.underlying t, evOK sl x with
    | some (.struct fields), some (.agg ⟨cs⟩) => match fields[f]? with
      | some fd => partA P fd.type cs fd.offset
      | none => none
    | _, _ => none
def xq_fieldAddr (P : Program) (m : Mem) (sl : Slots) (t : TypeId) (x : Operand) (f : Nat) : Option Value := match P.underlying t, evOK sl x with
    | some (.struct fields), some (.pointer (some ⟨i, off, none⟩)) => match fields[f]? with
      | some fd => match szOf P fd.type, m.get i with
        | some (_ + 1), some (.cells ..) => some (.pointer (some ⟨i, off + fd.offset, none⟩))
        | _, _ => none
      | none => none
    | _, _ => none
def xq_indexAddr (P : Program) (m : Mem) (sl : Slots) (t : TypeId) (x : Operand) (ix : Operand) : Option Value := match evOK sl ix, P.underlying t, evOK sl x with
    | some (.int _ i), some (.array len elem), some (.pointer (some ⟨b, off, none⟩)) =>
      if 0 ≤ i ∧ i < len then match szOf P elem with
        | some sz => some (.pointer (some ⟨b, off + i.toNat * sz, none⟩))
        | none => none
      else none
    | some (.int _ i), some (.slice elem), some (.slice (some ⟨b, off, s⟩) len cap) =>
      if 0 ≤ i ∧ i < len ∧ liveAt m b = true then match szOf P elem with
        | some sz => match s with
          | none => some (.pointer (some ⟨b, off + i.toNat * sz, none⟩))
          | some t => if 0 < cap then some (.pointer (some ⟨b, t + i.toNat * sz, none⟩)) else none
        | none => none
      else none
    | _, _, _ => none
def xq_index (P : Program) (m : Mem) (sl : Slots) (t : TypeId) (x : Operand) (ix : Operand) : Option Value := match evOK sl ix, P.underlying t, evOK sl x with
    | some (.int _ i), some (.array len elem), some (.agg ⟨cs⟩) =>
      if 0 ≤ i ∧ i < len then match szOf P elem with
        | some sz => partA P elem cs (i.toNat * sz)
        | none => none
      else none
    | some (.int _ i), some .string, some (.string s) =>
      if 0 ≤ i then match s[i.toNat]? with
        | some b => some (.int .u8 b.toNat)
        | none => none
      else none
    | _, _, _ => none
def xq_slice (P : Program) (m : Mem) (sl : Slots) (t : TypeId) (x : Operand) (lo : (Option Operand)) (hi : (Option Operand)) (mx : (Option Operand)) : Option Value :=
    match P.underlying t, evOK sl x, (match lo with | some v => (evOK sl v).map some | none => some none),
      (match hi with | some v => (evOK sl v).map some | none => some none), (match mx with | some v => (evOK sl v).map some | none => some none) with
    | some (.slice elem), some (.slice none len cap), some lo, some hi, some mx => match szOf P elem, boundsA len cap lo hi mx with
      | some _, some (l, h, m) => some (.slice none (h - l) (m - l))
      | _, _ => none
    | some (.slice elem), some (.slice (some ⟨i, o, s⟩) len cap), some lo, some hi, some mx => match szOf P elem with
      | some sz => resliceA sz i o s len cap lo hi mx
      | none => none
    | _, _, _, _, _ => none
def xq_extract (P : Program) (m : Mem) (sl : Slots) (x : Operand) (i : Nat) : Option Value := match evOK sl x with
    | some (.tuple ⟨vs⟩) => vs[i]?
    | _ => none
def xq_typeAssert (P : Program) (m : Mem) (sl : Slots) (x : Operand) (asserted : TypeId) (ok : Bool) : Option Value := match P.underlying asserted, evOK sl x with
    | some (.interface _), _ => none
    | some _, some (.iface t v) =>
      if t = asserted then some (if ok then .tuple #[v, .bool true] else v)
      else if ok then match zeroOf P asserted with
        | some z => some (.tuple #[z, .bool false])
        | none => none
      else none
    | _, _ => none
def xq_load (P : Program) (m : Mem) (sl : Slots) (t : TypeId) (a : Operand) : Option Value := match evOK sl a with
    | some x => loadA P m t x
    | none => none
def xq_lookup (P : Program) (m : Mem) (sl : Slots) (t : TypeId) (x : Operand) (k : Operand) (ok : Bool) : Option Value := match P.underlying t, evOK sl x, evOK sl k with
    | some (.map kt elem), some mp, some (.int kk kn) =>
      match P.underlying kt, zeroOf P elem with
      | some (.int _), some z =>
        match mapOf m mp with
        | some es =>
          if es.all (fun e => keyOf kk e.1) then
            match es.find? (fun e => keyIs kk kn e.1) with
            | some e => some (if ok then .tuple #[e.2, .bool true] else e.2)
            | none => some (if ok then .tuple #[z, .bool false] else z)
          else none
        | none => none
      | _, _ => none
    | _, _, _ => none
def xq_entry (P : Program) (m : Mem) (sl : Slots) (x : Operand) : Option Value := match evOK sl x with
    | some (.pointer (some ⟨r, 0, none⟩)) => match m.get r with
      | some (.iter (some mp) since _ (some (.int kk kn))) => match m.get mp with
        | some (.map es clk) => if clk = since then
            match es.find? (fun e => keyIs kk kn e.1) with
            | some e => some (.tuple #[e.1, e.2])
            | none => none
          else none
        | _ => none
      | _ => none
    | _ => none
def xq_len (P : Program) (m : Mem) (sl : Slots) (args : Array Operand) (argTypes : Array TypeId) : Option Value := match argTypes.toList, evsK sl args.toList with
    | [t], some [x] => match P.underlying t, x with
      | some (.slice _), .slice _ len _ => some (.int .i64 len)
      | some (.array len _), _ => some (.int .i64 len)
      | some (.map _ _), .map none => some (.int .i64 0)
      | some (.map _ _), .map (some r) => match m.get r with
        | some (.map es _) => some (.int .i64 es.length)
        | _ => none
      | some .string, .string s => some (.int .i64 s.size)
      | _, _ => none
    | _, _ => none
def xq_max (P : Program) (m : Mem) (sl : Slots) (args : Array Operand) (argTypes : Array TypeId) : Option Value := match evsK sl args.toList with
    | some [.int k x, .int _ y] => some (.int k (if y > x then y else x))
    | _ => none
def xq_min (P : Program) (m : Mem) (sl : Slots) (args : Array Operand) (argTypes : Array TypeId) : Option Value := match evsK sl args.toList with
    | some [.int k x, .int _ y] => some (.int k (if y < x then y else x))
    | _ => none
def xq_call (P : Program) (m : Mem) (sl : Slots) (c : Call) : Option Value :=
  match c.callee with
  | .builtin .len => xq_len P m sl c.args c.argTypes
  | .builtin .max => xq_max P m sl c.args c.argTypes
  | .builtin .min => xq_min P m sl c.args c.argTypes
  | _ => none
def evQX (P : Program) (m : Mem) (sl : Slots) (o : Oper) : Option Value :=
  match o.op with
  | .move x => evOK sl x
  | .assign x => evOK sl x
  | .pick c a b => xq_pick P m sl c a b
  | .nilCheck x => xq_nilCheck P m sl x
  | .binOp op t x y _ => xq_binOp P m sl op t x y
  | .unOp op _ x => xq_unOp P m sl op x
  | .convert src dst x => xq_convert P m sl src dst x
  | .makeInterface t x => xq_makeInterface P m sl t x
  | .makeFunc fn first captured => xq_makeFunc P m sl fn first captured
  | .build t parts => xq_build P m sl t parts
  | .field t x f => xq_field P m sl t x f
  | .fieldAddr t x f => xq_fieldAddr P m sl t x f
  | .indexAddr t x ix => xq_indexAddr P m sl t x ix
  | .index t x ix => xq_index P m sl t x ix
  | .slice t x lo hi mx => xq_slice P m sl t x lo hi mx
  | .extract x i => xq_extract P m sl x i
  | .typeAssert x _ asserted ok => xq_typeAssert P m sl x asserted ok
  | .load t a => xq_load P m sl t a
  | .lookup t x k ok => xq_lookup P m sl t x k ok
  | .entry x => xq_entry P m sl x
  | .call c => xq_call P m sl c
  | _ => none
def xe_range (P : Program) (m : Mem) (n : Nat) (sl : Slots) (t : TypeId) (x : Operand) : Eff := match P.underlying t, evOK sl x with
    | some (.map _ _), some (.map none) => .val (.pointer (some ⟨n, 0, none⟩)) (m.set n (.iter none 0 [] none)) (n + 1)
    | some (.map _ _), some (.map (some r)) => match m.get r with
      | some (.map es clk) => if es.all intKey then .val (.pointer (some ⟨n, 0, none⟩)) (m.set n (.iter (some r) clk (es.map (·.1)) none)) (n + 1) else .fail
      | _ => .fail
    | _, _ => .fail
def xe_next (P : Program) (m : Mem) (n : Nat) (sl : Slots) (it : Operand) : Eff := match evOK sl it with
    | some (.pointer (some ⟨r, 0, none⟩)) => match m.get r with
      | some (.iter none _ _ _) => .val (.tuple #[.bool false]) m n
      | some (.iter (some mp) since left _) => match m.get mp with
        | some (.map es clk) =>
          if clk = since ∧ es.all intKey = true then
            match es.filter (fun e => left.any fun k => match k with | .int kk kn => keyIs kk kn e.1 | _ => false) with
            | [] => .val (.tuple #[.bool false]) m n
            | cands => .alts (cands.map fun e => (.tuple #[.bool true, e.1, e.2],
                m.set r (.iter (some mp) since (left.filter fun k => match e.1 with | .int kk kn => !keyIs kk kn k | _ => false) (some e.1)), n))
          else .fail
        | _ => .fail
      | _ => .fail
    | _ => .fail
def xe_store (P : Program) (m : Mem) (n : Nat) (sl : Slots) (t : TypeId) (a : Operand) (x : Operand) : Eff := match evOK sl a, evOK sl x, szOf P t with
    | some (.pointer (some ⟨i, off, none⟩)), some v, some sz =>
      if v.cells.toList.length = sz then
        match storeCs m i off v.cells.toList with
        | some m' => .val undef m' n
        | none => .fail
      else .fail
    | _, _, _ => .fail
def xe_map (P : Program) (m : Mem) (n : Nat) (sl : Slots) (t : TypeId) (mp k x : Operand) : Eff := match P.underlying t, evOK sl mp, evOK sl k, evOK sl x with
    | some (.map kt _), some (.map (some r)), some (.int kk kn), some v => match P.underlying kt, m.get r with
      | some (.int _), some (.map es clk) =>
        if es.all (fun e => keyOf kk e.1) then
          if es.any (fun e => keyIs kk kn e.1) then .val undef (m.set r (.map (setKey es kk kn v) clk)) n
          else .val undef (m.set r (.map (es ++ [(.int kk kn, v)]) (clk + 1))) n
        else .fail
      | _, _ => .fail
    | _, _, _, _ => .fail
def xe_append (P : Program) (m : Mem) (n : Nat) (sl : Slots) (args : Array Operand) (argTypes : Array TypeId) : Eff := match argTypes.toList, evsK sl args.toList with
    | [t0, t1], some [s, x] => appendA P m n t0 t1 s x
    | _, _ => .fail
def xe_copy (P : Program) (m : Mem) (n : Nat) (sl : Slots) (args : Array Operand) (argTypes : Array TypeId) : Eff := match argTypes.toList, evsK sl args.toList with
    | [t0, _], some [.slice a len cap, .slice b k kcap] => match P.underlying t0 with
      | some (.slice elem) => match szOf P elem with
        | some sz => match sliceCells m sz (min k len) (.slice b k kcap), a with
          | some _, none => .val (.int .i64 (min k len : Nat)) m n
          | some cs, some ⟨i, o, sp⟩ =>
            if min k len = 0 then .val (.int .i64 0) m n else
            if 0 < cap then
              match storeCs m i (offOf o sp) cs with
              | some m' => .val (.int .i64 (min k len : Nat)) m' n
              | none => .fail
            else .fail
          | none, _ => .fail
        | none => .fail
      | _ => .fail
    | _, _ => .fail
def xe_clear (P : Program) (m : Mem) (n : Nat) (sl : Slots) (args : Array Operand) (argTypes : Array TypeId) : Eff := match argTypes.toList, evsK sl args.toList with
    | [t0], some [.slice a len cap] => match P.underlying t0 with
      | some (.slice elem) => match szOf P elem, zeroOf P elem, a with
        | some _, some _, none => .val (.tuple #[]) m n
        | some sz, some z, some ⟨i, o, sp⟩ =>
          if len = 0 then .val (.tuple #[]) m n else
          if z.cells.toList.length = sz ∧ 0 < cap then
            match storeCs m i (offOf o sp) (List.replicate len z.cells.toList).flatten with
            | some m' => .val (.tuple #[]) m' n
            | none => .fail
          else .fail
        | _, _, _ => .fail
      | _ => .fail
    | _, _ => .fail
def xe_value (P : Program) (m : Mem) (n : Nat) (sl : Slots) (f : Operand) (args : Array Operand) : Eff := match evOK sl f, evsK sl args.toList with
    | some fv, some vs => calleeA fv vs
    | _, _ => .fail
def xe_invoke (P : Program) (m : Mem) (n : Nat) (sl : Slots) (recv : Operand) (name : String) (args : Array Operand) : Eff := match evOK sl recv, evsK sl args.toList with
    | some (.iface t v), some vs => match methodA P m t v name with
      | some (f, r) => .call f (r :: vs)
      | none => .fail
    | _, _ => .fail
def xe_deferv (P : Program) (m : Mem) (n : Nat) (sl : Slots) (f : Operand) (args : Array Operand) : Eff := match evOK sl f, evsK sl args.toList with
    | some (.func (.func g) ⟨first⟩ cap), some vs => .dfr { target := .fn (.func g) cap, args := ⟨first ++ vs⟩ }
    | _, _ => .fail
def xe_defer (P : Program) (m : Mem) (n : Nat) (sl : Slots) (c : Call) : Eff :=
  match c.callee with
  | .value f => xe_deferv P m n sl f c.args
  | _ => .fail
def xe_call (P : Program) (m : Mem) (n : Nat) (sl : Slots) (c : Call) : Eff :=
  match c.callee with
  | .value f => xe_value P m n sl f c.args
  | .invoke recv name => xe_invoke P m n sl recv name c.args
  | .builtin .append => xe_append P m n sl c.args c.argTypes
  | .builtin .copy => xe_copy P m n sl c.args c.argTypes
  | .builtin .clear => xe_clear P m n sl c.args c.argTypes
  | _ => .fail
def xe_alloc (P : Program) (m : Mem) (n : Nat) (sl : Slots) (o : Oper) : Eff :=
  match evA P sl o n with
  | some (ob, v) => .val v (m.set n ob) (n + 1)
  | none => .fail
def evEX (P : Program) (m : Mem) (n : Nat) (sl : Slots) (o : Oper) : Eff :=
  match o.op with
  | .alloc _ => xe_alloc P m n sl o
  | .box _ _ => xe_alloc P m n sl o
  | .buildSlice _ _ _ => xe_alloc P m n sl o
  | .makeSlice _ _ _ => xe_alloc P m n sl o
  | .makeMap _ _ => xe_alloc P m n sl o
  | .range t x => xe_range P m n sl t x
  | .next it false => xe_next P m n sl it
  | .store t a x => xe_store P m n sl t a x
  | .mapUpdate t mp k x => xe_map P m n sl t mp k x
  | .insert t mp k x => xe_map P m n sl t mp k x
  | .call c => xe_call P m n sl c
  | .defer c => xe_defer P m n sl c
  | _ => .fail
theorem evQX_eq (P : Program) (m : Mem) (sl : Slots) (o : Oper) : evQX P m sl o = evQ P m sl o := by
  obtain ⟨dst, op, type, pos, after, guard⟩ := o
  cases op
  case move x => simp only [evQX, evOK_eq]; rfl
  case assign x => simp only [evQX, evOK_eq]; rfl
  case pick => simp only [evQX, xq_pick, evOK_eq]; rfl
  case nilCheck => simp only [evQX, xq_nilCheck, evOK_eq]; rfl
  case binOp => simp only [evQX, xq_binOp, evOK_eq]; rfl
  case unOp => simp only [evQX, xq_unOp, evOK_eq]; rfl
  case convert => simp only [evQX, xq_convert, evOK_eq]; rfl
  case makeInterface => simp only [evQX, xq_makeInterface, evOK_eq]; rfl
  case makeFunc => simp only [evQX, xq_makeFunc, evsK_eq]; rfl
  case build => simp only [evQX, xq_build, evPartsK_eq]; rfl
  case field => simp only [evQX, xq_field, evOK_eq]; rfl
  case fieldAddr => simp only [evQX, xq_fieldAddr, evOK_eq]; rfl
  case indexAddr => simp only [evQX, xq_indexAddr, evOK_eq]; rfl
  case index => simp only [evQX, xq_index, evOK_eq]; rfl
  case slice => simp only [evQX, xq_slice, evOK_eq]; rfl
  case extract => simp only [evQX, xq_extract, evOK_eq]; rfl
  case typeAssert => simp only [evQX, xq_typeAssert, evOK_eq]; rfl
  case load => simp only [evQX, xq_load, evOK_eq]; rfl
  case lookup => simp only [evQX, xq_lookup, evOK_eq]; rfl
  case entry => simp only [evQX, xq_entry, evOK_eq]; rfl
  case call c =>
    obtain ⟨callee, args, argTypes⟩ := c
    cases callee
    case builtin b =>
      cases b
      case len => simp only [evQX, xq_call, xq_len, evsK_eq]; rfl
      case max => simp only [evQX, xq_call, xq_max, evsK_eq]; rfl
      case min => simp only [evQX, xq_call, xq_min, evsK_eq]; rfl
      all_goals rfl
    all_goals rfl
  all_goals rfl
theorem evEX_eq (P : Program) (m : Mem) (n : Nat) (sl : Slots) (o : Oper) : evEX P m n sl o = evE P m n sl o := by
  obtain ⟨dst, op, type, pos, after, guard⟩ := o
  cases op
  case next it b =>
    cases b
    case false => simp only [evEX, xe_next, evOK_eq]; rfl
    case true => rfl
  case range t x => simp only [evEX, xe_range, evOK_eq]; rfl
  case store t a x => simp only [evEX, xe_store, evOK_eq]; rfl
  case mapUpdate t mp k x => simp only [evEX, xe_map, evOK_eq]; rfl
  case insert t mp k x => simp only [evEX, xe_map, evOK_eq]; rfl
  case call c =>
    obtain ⟨callee, args, argTypes⟩ := c
    cases callee
    case value f => simp only [evEX, xe_call, xe_value, evOK_eq, evsK_eq]; rfl
    case invoke r n => simp only [evEX, xe_call, xe_invoke, evOK_eq, evsK_eq]; rfl
    case builtin b =>
      cases b
      case append => simp only [evEX, xe_call, xe_append, evsK_eq]; rfl
      case copy => simp only [evEX, xe_call, xe_copy, evsK_eq]; rfl
      case clear => simp only [evEX, xe_call, xe_clear, evsK_eq]; rfl
      all_goals rfl
  case defer c =>
    obtain ⟨callee, args, argTypes⟩ := c
    cases callee
    case value f => simp only [evEX, xe_defer, xe_deferv, evOK_eq, evsK_eq]; rfl
    all_goals rfl
  all_goals rfl

def evOpX (P : Program) (m : Mem) (n : Nat) (sl : Slots) (o : Oper) : Eff :=
  bif quietOp o.op then
    match evQX P m sl o with
    | some v => .val v m n
    | none => .fail
  else evEX P m n sl o
theorem evOpX_eq (P : Program) (m : Mem) (n : Nat) (sl : Slots) (o : Oper) : evOpX P m n sl o = evOp P m n sl o := by
  unfold evOpX evOp
  rw [evQX_eq, evEX_eq]
  cases quietOp o.op <;> rfl
def operAX (P : Program) (fr : AFrame) (o : Oper) (m : Mem) (n : Nat) : Out :=
  match evOpX P m n fr.slots o with
  | .val v m n => .go (finA fr v) m n
  | .call f args => match enterA P f args .normal with
    | some c => .call c fr m n
    | none => .fail
  | .yield l args => match roundA m l args with
    | some c => .call c fr m n
    | none => .fail
  | .dfr d => match fr.round with
    | none => .go (finA { fr with defers := d :: fr.defers } undef) m n
    | some _ => .fail
  | .alts l => .alts (l.map fun (v, m, n) => (finA fr v, m, n))
  | .fail => .fail
theorem operAX_eq (P : Program) (fr : AFrame) (o : Oper) (m : Mem) (n : Nat) : operAX P fr o m n = operA P fr o m n := by
  unfold operAX operA
  rw [evOpX_eq]
  rfl

def sx_rf (P : Program) (fr : AFrame) (m : Mem) (n : Nat) (k : List Item) (f : Operand) (params : Array Tmp) (assign body : Code) : Out :=
  match fr.round, evO fr.slots f with
      | none, some (.func (.func g) ⟨first⟩ ⟨cap⟩) =>
        match enterA P g (first ++ [.func (.yield (n + 1)) #[] #[]] ++ cap) .normal with
        | some c => .call c { fr with todo := .inRangeFunc (n + 1) :: k, defers := { target := .collected n, args := #[] } :: fr.defers }
            ((m.set n (.deferred (some []))).set (n + 1) (.loop .ready none fr.fn fr.nt fr.slots params.toList assign body n)) (n + 2)
        | none => .fail
      | some l, some (.func (.func g) ⟨first⟩ ⟨cap⟩) => match m.get l with
        | some (.loop _ _ _ _ _ _ _ _ ds) =>
          match enterA P g (first ++ [.func (.yield n) #[] #[]] ++ cap) .normal with
          | some c => .call c { fr with todo := .inRangeFunc n :: k }
              (m.set n (.loop .ready none fr.fn fr.nt fr.slots params.toList assign body ds)) (n + 1)
          | none => .fail
        | _ => .fail
      | _, _ => .fail
def sx_cond (fr : AFrame) (m : Mem) (n : Nat) (k : List Item) (c : Operand) (x y : Code) : Out :=
  match evO fr.slots c with
  | some (.bool true) => .go { fr with todo := .code x :: k } m n
  | some (.bool false) => .go { fr with todo := .code y :: k } m n
  | _ => .fail
def sx_exit (fr : AFrame) (m : Mem) (n : Nat) (k : List Item) (id : Nat) : Out :=
  match exitTo id k with
  | some k' => .go { fr with todo := k' } m n
  | none => leaveA fr m n (some (.exit id))
def sx_goto (fr : AFrame) (m : Mem) (n : Nat) (k : List Item) (l : Nat) : Out :=
  match gotoIn l k with
  | some k' => .go { fr with todo := k' } m n
  | none => leaveA fr m n (some (.goto l))
def sx_code (P : Program) (fr : AFrame) (m : Mem) (n : Nat) (k : List Item) : Code → Out
  | .ret => leaveA fr m n (some .ret)
  | .skip => .go { fr with todo := k } m n
  | .label _ => .go { fr with todo := k } m n
  | .seq a b => .go { fr with todo := .code a :: .code b :: k } m n
  | .cond c x y => sx_cond fr m n k c x y
  | .block id body => .go { fr with todo := .code body :: .inBlock id :: k } m n
  | .loop body => .go { fr with todo := .code body :: .inLoop body :: k } m n
  | .scope body => .go { fr with todo := .code body :: .inScope body :: k } m n
  | .exit id => sx_exit fr m n k id
  | .goto l => sx_goto fr m n k l
  | .rangeFunc f params assign body => sx_rf P fr m n k f params assign body
  | .region _ ops draw => bif draw then .draw ops { fr with todo := k } m n else .go { fr with todo := .inRegion ops (List.range ops.size) :: k } m n
  | .refuse _ => .fail
def sx_oper (P : Program) (fr : AFrame) (m : Mem) (n : Nat) (ops : Array Oper) (i : Nat) : Out :=
  match ops[i]? with
  | some o => bif dstOk fr.nt o.dst then
      match wantK ops fr.slots o with
      | some true => operAX P fr o m n
      | some false => .go (finA fr undef) m n
      | none => .fail
    else .fail
  | none => .fail

def sx_begin (fr : AFrame) (m : Mem) (n : Nat) (k : List Item) : Out :=
  match fr.round with
    | some l => match m.get l with
      | some (.loop .ready p fn nt slots params assign body ds) => .go { fr with todo := k } (m.set l (.loop .busy p fn nt slots params assign body ds)) n
      | _ => .fail
    | none => .fail
def sx_end (fr : AFrame) (m : Mem) (n : Nat) (k : List Item) (l : Nat) : Out :=
  match m.get l with
    | some (.loop st p fn nt slots params assign body ds) =>
      match st with
      | .busy => .fail
      | _ => .go { fr with todo := (p.map Item.code).toList ++ k } (m.set l (.loop .exhausted p fn nt slots params assign body ds)) n
    | _ => .fail
def sx_item (P : Program) (keep : FuncId → Option (List Nat)) (fr : AFrame) (m : Mem) (n : Nat) (k : List Item) : Item → Out
  | .code c => sx_code P fr m n k c
  | .inRegion ops (i :: _) => sx_oper P fr m n ops i
  | .inRegion _ [] => .go { fr with todo := k, slots := prune (keep fr.fn) fr.slots } m n
  | .inBlock _ => .go { fr with todo := k } m n
  | .inScope _ => .go { fr with todo := k } m n
  | .inLoop body => .go { fr with todo := .code body :: .inLoop body :: k } m n
  | .beginRound => sx_begin fr m n k
  | .endRangeFunc l => sx_end fr m n k l
  | _ => .fail
def stepAX (P : Program) (keep : FuncId → Option (List Nat)) (fr : AFrame) (m : Mem) (n : Nat) : Out :=
  bif fr.ret then
    match fr.round with
    | none => unwindA P fr m n
    | some _ => .fail
  else
    match fr.todo with
    | [] => leaveA fr m n none
    | x :: k => sx_item P keep fr m n k x
theorem sx_oper_eq (P : Program) (fr : AFrame) (m : Mem) (n : Nat) (ops : Array Oper) (i : Nat) : sx_oper P fr m n ops i = match ops[i]? with
    | some o => if dstOk fr.nt o.dst then
        match wantedA ops fr.slots o with
        | some true => operA P fr o m n
        | some false => .go (finA fr undef) m n
        | none => .fail
      else .fail
    | none => .fail := by
  unfold sx_oper
  cases ops[i]? with
  | none => rfl
  | some o =>
    simp only [operAX_eq, wantK_eq]
    cases dstOk fr.nt o.dst <;> rfl
theorem stepAX_eq (P : Program) (keep : FuncId → Option (List Nat)) (fr : AFrame) (m : Mem) (n : Nat) : stepAX P keep fr m n = stepA P keep fr m n := by
  unfold stepAX stepA
  obtain ⟨fn, nt, slots, todo, defers, ret, kind, round⟩ := fr
  cases ret with
  | true => rfl
  | false =>
    cases todo with
    | nil => rfl
    | cons x k =>
      cases x <;> try rfl
      · rename_i c
        cases c <;> try rfl
        rename_i id ops d
        cases d <;> rfl
      · rename_i ops l
        cases l with
        | nil => rfl
        | cons i rest => exact sx_oper_eq ..

/-- The part of orderOk that the code alone settles. -/
def ordS (ops : Array Oper) : Bool :=
  ops.toList.zipIdx.all fun (o, i) =>
    (o.after.all fun e => decide (e.on < i) || !Region.binds .any e) &&
    (let nm := named ops o
     ops.toList.zipIdx.all fun (d, j) =>
      i == j || match d.dst with
        | none => true
        | some t => !nm.contains t || ((Region.before ops).getD (max i j) 0).testBit (min i j))
def dsts (ops : Array Oper) : List (Option Tmp) := ops.toList.map (·.dst)
def ordX (ops : Array Oper) (nt : Nat) : Bool := ordS ops && (dsts ops).all (dstOk nt)
theorem ordX_eq (ops : Array Oper) (nt : Nat) : ordX ops nt = orderOk ops (Region.before ops) nt := by
  unfold ordX ordS orderOk dsts
  rw [Bool.eq_iff_iff]
  simp only [Bool.and_eq_true, List.all_eq_true, List.mem_map, forall_exists_index, and_imp]
  constructor
  · rintro ⟨h1, h2⟩ x hx
    refine ⟨⟨h2 _ x.1 ?_ rfl, (h1 x hx).1⟩, (h1 x hx).2⟩
    obtain ⟨i, hi⟩ := List.mem_iff_getElem?.1 hx
    rw [List.getElem?_zipIdx] at hi
    cases ho : ops.toList[i]? with
    | none => rw [ho] at hi; cases hi
    | some o => rw [ho] at hi; simp only [Option.map_some, Option.some.injEq] at hi; subst hi; exact List.mem_of_getElem? ho
  · intro h
    refine ⟨fun x hx => ⟨(h x hx).1.2, (h x hx).2⟩, fun d o ho hd => ?_⟩
    obtain ⟨i, hi⟩ := List.mem_iff_getElem?.1 ho
    subst hd
    exact (h (o, i) (mem_zip (by simpa using hi))).1.1

def drawEffX (P : Program) (rec : AFrame → Mem → Nat → Res) (m : Mem) (n : Nat) (sl : Slots) (o : Oper) : Option (Value × Mem × Nat) :=
  match evEX P m n sl o with
  | .val v m n => some (v, m, n)
  | .call f args => match enterA P f args .normal with
    | some c => match rec c m n with
      | some [r] => some r
      | _ => none
    | none => none
  | .yield l args => match roundA m l args with
    | some c => match rec c m n with
      | some [r] => some r
      | _ => none
    | none => none
  | _ => none
theorem drawEffX_eq (P : Program) (rec : AFrame → Mem → Nat → Res) (m : Mem) (n : Nat) (sl : Slots) (o : Oper) : drawEffX P rec m n sl o = drawEff P rec m n sl o := by
  unfold drawEffX drawEff
  rw [evEX_eq]
  rfl
def dx_alloc (P : Program) (n0 i : Nat) (o : Oper) (slR : Slots) (d : Dr) : Option Dr :=
  match evA P slR o (n0 + i) with
  | some (ob, v) => some { d with sl := putO d.sl o.dst v, als := d.als ++ [(i, ob)] }
  | none => none
def dx_quiet (P : Program) (i : Nat) (o : Oper) (slR : Slots) (view : Mem) (d : Dr) : Option Dr :=
  match evQX P view slR o with
  | some v => some { d with sl := putO d.sl o.dst v, looks := (i, o, slR, v) :: d.looks }
  | none => none
def dx_eff (P : Program) (rec : AFrame → Mem → Nat → Res) (i : Nat) (o : Oper) (slR : Slots) (view : Mem) (w : List (Nat × AObj)) (d : Dr) : Option Dr :=
  match drawEffX P rec view d.st.n slR o with
  | some (v, m, n) =>
    let st : Stg := ⟨m, d.st.mg ++ w.map (·.1), n⟩
    some { d with sl := putO d.sl o.dst v, st := st, effs := d.effs ++ [i], hist := d.hist ++ [st] }
  | none => none
def dx_want (P : Program) (rec : AFrame → Mem → Nat → Res) (ops : Array Oper) (n0 : Nat) (i : Nat) (o : Oper) (d : Dr) : Option Dr :=
  bif allocOp o.op then dx_alloc P n0 i o (restrK o d.sl) d
  else bif quietOp o.op then dx_quiet P i o (restrK o d.sl) (addAll n0 (waits d.als ((Region.before ops).getD i 0) d.st.mg) d.st.m) d
  else bif d.effs.all (fun e => ((Region.before ops).getD i 0).testBit e) then
    dx_eff P rec i o (restrK o d.sl) (addAll n0 (waits d.als ((Region.before ops).getD i 0) d.st.mg) d.st.m) (waits d.als ((Region.before ops).getD i 0) d.st.mg) d
  else none
def drawOpX (P : Program) (rec : AFrame → Mem → Nat → Res) (ops : Array Oper) (n0 : Nat) (i : Nat) (o : Oper) (d : Dr) : Option Dr :=
  match wantK ops d.sl o with
  | none => none
  | some false => some { d with sl := putO d.sl o.dst undef }
  | some true => dx_want P rec ops n0 i o d
theorem drawOpX_eq (P : Program) (rec : AFrame → Mem → Nat → Res) (ops : Array Oper) (n0 : Nat) (i : Nat) (o : Oper) (d : Dr) : drawOpX P rec ops n0 i o d = drawOp P rec ops (Region.before ops) n0 i o d := by
  unfold drawOpX drawOp dx_want dx_alloc dx_quiet dx_eff
  simp only [evQX_eq, drawEffX_eq, wantK_eq, restrK_eq]
  cases wantedA ops d.sl o with
  | none => rfl
  | some b =>
    cases b with
    | false => rfl
    | true =>
      simp only
      cases allocOp o.op with
      | true => rfl
      | false =>
        cases quietOp o.op with
        | true => rfl
        | false =>
          simp only [cond_false]
          cases d.effs.all (fun e => ((Region.before ops).getD i 0).testBit e) <;> rfl
def drawOpsX (P : Program) (rec : AFrame → Mem → Nat → Res) (ops : Array Oper) (n0 : Nat) : List (Oper × Nat) → Dr → Option Dr
  | [], d => some d
  | (o, i) :: l, d => match drawOpX P rec ops n0 i o d with
    | some d' => drawOpsX P rec ops n0 l d'
    | none => none
theorem drawOpsX_eq (P : Program) (rec : AFrame → Mem → Nat → Res) (ops : Array Oper) (n0 : Nat) : ∀ (l : List (Oper × Nat)) (d : Dr), drawOpsX P rec ops n0 l d = drawOps P rec ops (Region.before ops) n0 l d
  | [], d => rfl
  | (o, i) :: l, d => by
    simp only [drawOpsX, drawOps, drawOpX_eq]
    cases drawOp P rec ops (Region.before ops) n0 i o d with
    | none => rfl
    | some d' => exact drawOpsX_eq P rec ops n0 l d'
def lookOkX (P : Program) (b : Array Nat) (n0 : Nat) (d : Dr) (x : Nat × Oper × Slots × Value) : Bool :=
  stillOp x.2.1.op || lookOk P b n0 d x
def dx_end (P : Program) (ops : Array Oper) (nt n : Nat) (d : Dr) : Option (Slots × Mem × Nat) :=
  bif ordX ops nt && ((d.effs.isEmpty || d.looks.all (lookOkX P (Region.before ops) n d)) &&
     ((d.hist.all fun st => Nat.ble (n + ops.size) st.n) && (d.als.isEmpty || d.hist.all fun st => d.als.all fun x => st.mg.contains x.1 || (st.m.get (n + x.1)).isNone))) then
    some (d.sl, addAll n (d.als.filter fun x => !d.st.mg.contains x.1) d.st.m, d.st.n)
  else none
def drawAX (P : Program) (rec : AFrame → Mem → Nat → Res) (ops : Array Oper) (nt : Nat) (sl : Slots) (m : Mem) (n : Nat) : Option (Slots × Mem × Nat) :=
  match drawOpsX P rec ops n ops.toList.zipIdx { sl := sl, st := ⟨m, [], n + ops.size⟩, als := [], effs := [], hist := [⟨m, [], n + ops.size⟩], looks := [] } with
  | some d => dx_end P ops nt n d
  | none => none
theorem drawAX_eq (P : Program) (rec : AFrame → Mem → Nat → Res) (ops : Array Oper) (nt : Nat) (sl : Slots) (m : Mem) (n : Nat) : drawAX P rec ops nt sl m n = drawA P rec ops nt sl m n := by
  unfold drawAX drawA dx_end
  simp only [drawOpsX_eq, ordX_eq]
  cases drawOps P rec ops (Region.before ops) n ops.toList.zipIdx { sl := sl, st := ⟨m, [], n + ops.size⟩, als := [], effs := [], hist := [⟨m, [], n + ops.size⟩], looks := [] } with
  | none => rfl
  | some d =>
    have : ∀ a b, Nat.ble a b = decide (a ≤ b) := fun a b => by
      rw [Bool.eq_iff_iff, Nat.ble_eq, decide_eq_true_eq]
    simp only [this, Bool.and_assoc, cond_eq_ite]
    rfl
def evalX (P : Program) (keep : FuncId → Option (List Nat)) : Nat → AFrame → Mem → Nat → Res
  | 0, _, _, _ => none
  | f + 1, fr, m, n => match stepAX P keep fr m n with
    | .go fr m n => evalX P keep f fr m n
    | .call c fr m n => match evalX P keep f c m n with
      | none => none
      | some rs => bindAll rs fun v m n => evalX P keep f (afterA c.kind fr v) m n
    | .alts l => bindFr l fun fr m n => evalX P keep f fr m n
    | .draw ops fr m n => match drawAX P (evalX P keep f) ops fr.nt fr.slots m n with
      | some (sl, m, n) => evalX P keep f { fr with slots := prune (keep fr.fn) sl } m n
      | none => none
    | .ret v m n => some [(v, m, n)]
    | .fail => none
theorem evalX_eq (P : Program) (keep : FuncId → Option (List Nat)) : ∀ f, evalX P keep f = evalF P keep f := by
  intro f
  induction f with
  | zero => rfl
  | succ f ih =>
    funext fr m n
    simp only [evalX, evalF, stepAX_eq, drawAX_eq, ih]
    rfl
def callX (P : Program) (keep : FuncId → Option (List Nat)) (fuel : Nat) (f : FuncId) (args : List Value) (m : Mem) (n : Nat) : Res :=
  match enterA P f args .normal with
  | some fr => evalX P keep fuel fr m n
  | none => none
theorem callX_eq (P : Program) (keep : FuncId → Option (List Nat)) (fuel : Nat) (f : FuncId) (args : List Value) (m : Mem) (n : Nat) : callX P keep fuel f args m n = evalCall P keep fuel f args m n := by
  unfold callX evalCall
  rw [evalX_eq]
  rfl
/-- The closed call again. -/
theorem closedX {P : Program} (hd : DrawOk P) {keep : FuncId → Option (List Nat)} {fuel : Nat} {f : FuncId} (h : allTrue (callX P keep fuel f [] .leaf 0) = true) (w : World) :
    Calls P f #[] w fun e w' => e = .returned (.bool true) ∧ RowKit.Below w.heap.size w w' :=
  closed_calls hd (by rw [← callX_eq]; exact h) w
end
end Go.Ab
