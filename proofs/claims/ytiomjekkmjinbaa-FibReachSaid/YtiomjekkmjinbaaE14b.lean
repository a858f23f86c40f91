/- E14b: what parts of the program compute; helper of the claim. -/
import Derived.Test.YtiomjekkmjinbaaE14
namespace Go.Proofs.Ytiomjekkmjinbaa
open Go Go.Ab
set_option maxRecDepth 100000
/- 48 container/heap.Pop -/
theorem xContainerheapPop (m : Mem) (n : Nat) (Q : Value → Mem → Nat → Prop) (h : Nat) :
 Xc Try.prog xcfg 400 fContainerheapPop [Value.iface tPspfqueue (Value.pointer (some { block := h, off := 0 }))] m n Q =
 (∃ (p0 : Option Addr),
 ∃ (k1 : Nat),
 ∃ (k2 : Nat),
 rd m h 0 = some (Value.slice p0 k1 k2) ∧
 Wc Try.prog fSpfqueueLen [Value.slice p0 k1 k2] m n fun (v3 : Value) (m4 : Mem) (k5 : Nat) =>
 ∃ (x6 : Int),
 v3 = Value.int IntKind.i64 x6 ∧
 Later
 (∃ (p7 : Option Addr),
 ∃ (k8 : Nat),
 ∃ (k9 : Nat),
 rd m4 h 0 = some (Value.slice p7 k8 k9) ∧
 Wc Try.prog fSpfqueueSwap [Value.slice p7 k8 k9, Value.int IntKind.i64 0, Value.int IntKind.i64 (IntKind.i64.wrap (x6 - 1))] m4 k5 fun (v10 : Value) (m11 : Mem) (k12 : Nat) =>
 v10 = Value.tuple { toList := [] } ∧ Later (Wc Try.prog fContainerheapdown [Value.iface tPspfqueue (Value.pointer (some { block := h, off := 0 })), Value.int IntKind.i64 0, Value.int IntKind.i64 (IntKind.i64.wrap (x6 - 1))] m11 k12 fun (v13 : Value) (m14 : Mem) (k15 : Nat) => ∃ (b16 : Bool), v13 = Value.bool b16 ∧ Later (Wc Try.prog fSpfqueuePop [Value.pointer (some { block := h, off := 0 })] m14 k15 fun (v17 : Value) (m18 : Mem) (k19 : Nat) => ∃ (x20 : Int), ∃ (x21 : Int), v17 = Value.iface tSpffar (Value.agg { toList := [Value.int IntKind.i64 x20, Value.int IntKind.i64 x21] }) ∧ Later (Q (Value.iface tSpffar (Value.agg { toList := [Value.int IntKind.i64 x20, Value.int IntKind.i64 x21] })) m18 k19))))) := by kernel_rfl

/- 49 leafmesh/spf.filter[leafmesh/api.Link] -/
theorem xSpffilterapiLink (m : Mem) (n : Nat) (Q : Value → Mem → Nat → Prop) (l_a : Option Addr) (l_l : Nat) (l_c : Nat) (flags_a : Option Addr) (flags_l : Nat) (flags_c : Nat) :
 Xc Try.prog xcfg 400 fSpffilterapiLink [Value.slice l_a l_l l_c, Value.slice flags_a flags_l flags_c] m n Q =
 (memLet (Tr.set m n (AObj.cells none tLapiLink 1 [Value.slice l_a l_l l_c])) fun (m0 : Mem) => memLet (Tr.set m0 (n + 1) (AObj.cells none tLbool 1 [Value.slice flags_a flags_l flags_c])) fun (m1 : Mem) => Q (Value.func (Fn.func fSpffilterapiLink1) { toList := [] } { toList := [Value.pointer (some { block := n, off := 0 }), Value.pointer (some { block := n + 1, off := 0 })] }) m1 (n + 1 + 1)) := by kernel_rfl

/- 50 leafmesh/spf.other -/
theorem xSpfother (m : Mem) (n : Nat) (Q : Value → Mem → Nat → Prop) (x0 : Int) (x1 : Int) (x2 : Int) (n' : Int) :
 Xc Try.prog xcfg 400 fSpfother [Value.agg { toList := [Value.int IntKind.i64 x0, Value.int IntKind.i64 x1, Value.int IntKind.i64 x2] }, Value.int IntKind.i64 n'] m n Q =
 (memLet (Tr.set m n (AObj.cells none tApiLink 3 [Value.int IntKind.i64 x0, Value.int IntKind.i64 x1, Value.int IntKind.i64 x2])) fun (m0 : Mem) => isC m0 n = true ∧ ∃ (x1 : Int), rd m0 n 0 = some (Value.int IntKind.i64 x1) ∧ bif n' == x1 then isC m0 n = true ∧ ∃ (x2 : Int), rd m0 n 1 = some (Value.int IntKind.i64 x2) ∧ Q (Value.int IntKind.i64 x2) m0 (n + 1) else isC m0 n = true ∧ ∃ (x3 : Int), rd m0 n 1 = some (Value.int IntKind.i64 x3) ∧ bif n' == x3 then isC m0 n = true ∧ ∃ (x4 : Int), rd m0 n 0 = some (Value.int IntKind.i64 x4) ∧ Q (Value.int IntKind.i64 x4) m0 (n + 1) else Q (Value.int IntKind.i64 (-1)) m0 (n + 1)) := by kernel_rfl

/- 51 container/heap.Push -/
theorem xContainerheapPush (m : Mem) (n : Nat) (Q : Value → Mem → Nat → Prop) (h : Nat) (x0 : Int) (x1 : Int) :
 Xc Try.prog xcfg 400 fContainerheapPush [Value.iface tPspfqueue (Value.pointer (some { block := h, off := 0 })), Value.iface tSpffar (Value.agg { toList := [Value.int IntKind.i64 x0, Value.int IntKind.i64 x1] })] m n Q =
 (Wc Try.prog fSpfqueuePush [Value.pointer (some { block := h, off := 0 }), Value.iface tSpffar (Value.agg { toList := [Value.int IntKind.i64 x0, Value.int IntKind.i64 x1] })] m n fun (v0 : Value) (m1 : Mem) (k2 : Nat) => v0 = Value.tuple { toList := [] } ∧ Later (∃ (p3 : Option Addr), ∃ (k4 : Nat), ∃ (k5 : Nat), rd m1 h 0 = some (Value.slice p3 k4 k5) ∧ Wc Try.prog fSpfqueueLen [Value.slice p3 k4 k5] m1 k2 fun (v6 : Value) (m7 : Mem) (k8 : Nat) => ∃ (x9 : Int), v6 = Value.int IntKind.i64 x9 ∧ Later (Wc Try.prog fContainerheapup [Value.iface tPspfqueue (Value.pointer (some { block := h, off := 0 })), Value.int IntKind.i64 (IntKind.i64.wrap (x9 - 1))] m7 k8 fun (v10 : Value) (m11 : Mem) (k12 : Nat) => v10 = Value.tuple { toList := [] } ∧ Later (Q (Value.tuple { toList := [] }) m11 k12)))) := by kernel_rfl

/- 52 leafmesh/addr.Node -/
theorem xAddrNode (m : Mem) (n : Nat) (Q : Value → Mem → Nat → Prop) (ip : Int) :
 Xc Try.prog xcfg 400 fAddrNode [Value.int IntKind.u32 ip] m n Q =
 (bif decide (ip ≤ 184483840) then Q (Value.tuple { toList := [Value.int IntKind.i64 0, Value.bool false] }) m n else bif decide (ip > 184483872) then Q (Value.tuple { toList := [Value.int IntKind.i64 0, Value.bool false] }) m n else Q (Value.tuple { toList := [Value.int IntKind.i64 (IntKind.i64.wrap (IntKind.i64.wrap (IntKind.u32.wrap (ip - 184483840)) - 1)), Value.bool true] }) m n) := by kernel_rfl

/- 53 (*leafmesh/fib.Fib).Forward$1 -/
theorem xFibFibForward1 (m : Mem) (n : Nat) (Q : Value → Mem → Nat → Prop) (t0 : Nat) (t1 : Nat) (t2 : Nat) :
 Xc Try.prog xcfg 400 fFibFibForward1 [Value.pointer (some { block := t0, off := 0 }), Value.pointer (some { block := t1, off := 0 }), Value.pointer (some { block := t2, off := 0 })] m n Q =
 (∃ (b0 : Bool), rd m t0 0 = some (Value.bool b0) ∧ bif b0 then ∃ (x1 : Int), rd m t1 0 = some (Value.int IntKind.i64 x1) ∧ ∃ (p2 : Option Addr), rd m t2 0 = some (Value.pointer p2) ∧ elimP p2 False fun (k3 k4 : Nat) => isC m k3 = true ∧ ∃ (p5 : Option Addr), rd m k3 (k4 + 0) = some (Value.pointer p5) ∧ elimP p5 False fun (k6 k7 : Nat) => isC m k6 = true ∧ ∃ (x8 : Int), rd m k6 (k7 + 1) = some (Value.int IntKind.i64 x8) ∧ bif x1 == x8 then Q (Value.int IntKind.i64 9) m (n + 12) else Q (Value.int IntKind.i64 0) m (n + 12) else Q (Value.int IntKind.i64 0) m (n + 12)) := by kernel_rfl

/- 54 (*leafmesh/fib.Fib).Forward$2 -/
theorem xFibFibForward2 (m : Mem) (n : Nat) (Q : Value → Mem → Nat → Prop) (t0 : Nat) :
 Xc Try.prog xcfg 400 fFibFibForward2 [Value.pointer (some { block := t0, off := 0 })] m n Q =
 (isC m t0 = true ∧ ∃ (x0 : Int), rd m t0 2 = some (Value.int IntKind.i64 x0) ∧ bif decide (x0 < 2) then Q (Value.int IntKind.i64 20) m n else Q (Value.int IntKind.i64 0) m n) := by kernel_rfl

/- 55 (*leafmesh/fib.Fib).Forward$3 -/
theorem xFibFibForward3 (m : Mem) (n : Nat) (Q : Value → Mem → Nat → Prop) (t0 : Nat) (t1 : Nat) :
 Xc Try.prog xcfg 400 fFibFibForward3 [Value.pointer (some { block := t0, off := 0 }), Value.pointer (some { block := t1, off := 0 })] m n Q =
 (∃ (p0 : Option Addr), rd m t0 0 = some (Value.pointer p0) ∧ elimP p0 False fun (k1 k2 : Nat) => isC m k1 = true ∧ ∃ (p3 : Option Addr), rd m k1 (k2 + 0) = some (Value.pointer p3) ∧ isC m t1 = true ∧ ∃ (x4 : Int), rd m t1 1 = some (Value.int IntKind.u32 x4) ∧ ∃ (x5 : Int), ∃ (b6 : Bool), ∃ (m7 : Mem), ∃ (k8 : Nat), (Wc Try.prog fFibstatefind [Value.pointer p3, Value.int IntKind.u32 x4] m (n + 12) fun (v9 : Value) (m10 : Mem) (k11 : Nat) => v9 = Value.tuple { toList := [Value.int IntKind.i64 x5, Value.bool b6] } ∧ m10 = m7 ∧ k11 = k8) ∧ Later (n + 12 ≤ k8 ∧ bif !b6 then Q (Value.int IntKind.i64 13) m7 k8 else Q (Value.int IntKind.i64 0) m7 k8)) := by kernel_rfl

/- 56 (*leafmesh/spread.Wheel).Pick -/
theorem xSpreadWheelPick (m : Mem) (n : Nat) (Q : Value → Mem → Nat → Prop) (w : Nat) (hash : Int) :
 Xc Try.prog xcfg 400 fSpreadWheelPick [Value.pointer (some { block := w, off := 0 }), Value.int IntKind.u64 hash] m n Q =
 (Wc Try.prog fSpreadWheelvalid [Value.pointer (some { block := w, off := 0 })] m n fun (v0 : Value) (m1 : Mem) (k2 : Nat) =>
 ∃ (b3 : Bool),
 v0 = Value.bool b3 ∧
 Later
 (bif !b3 then Q (Value.tuple { toList := [Value.int IntKind.i64 0, Value.bool false] }) m1 k2
 else
 isC m1 w = true ∧
 ∃ (p4 : Option Addr),
 rd m1 w 0 = some (Value.pointer p4) ∧
 elimP p4 False fun (k5 k6 : Nat) =>
 isC m1 k5 = true ∧
 ∃ (p7 : Option Addr),
 ∃ (k8 : Nat),
 ∃ (k9 : Nat),
 rd m1 k5 (k6 + 0) = some (Value.slice p7 k8 k9) ∧
 bif (↑k8 : Int) == 0 then Q (Value.tuple { toList := [Value.int IntKind.i64 0, Value.bool false] }) m1 k2
 else
 isC m1 w = true ∧
 ∃ (p10 : Option Addr),
 rd m1 w 0 = some (Value.pointer p10) ∧
 elimP p10 False fun (k11 k12 : Nat) =>
 isC m1 k11 = true ∧ ∃ (p13 : Option Addr), ∃ (k14 : Nat), ∃ (k15 : Nat), rd m1 k11 (k12 + 1) = some (Value.slice p13 k14 k15) ∧ isC m1 w = true ∧ ∃ (p16 : Option Addr), rd m1 w 0 = some (Value.pointer p16) ∧ elimP p16 False fun (k17 k18 : Nat) => isC m1 k17 = true ∧ ∃ (p19 : Option Addr), ∃ (k20 : Nat), ∃ (k21 : Nat), rd m1 k17 (k18 + 1) = some (Value.slice p19 k20 k21) ∧ IntKind.u64.wrap (↑k20 : Int) ≠ 0 ∧ elimA p13 False fun (k22 k23 : Nat) (p24 : Option Nat) => (0 ≤ hash.tmod (IntKind.u64.wrap (↑k20 : Int)) ∧ hash.tmod (IntKind.u64.wrap (↑k20 : Int)) < (↑k14 : Int) ∧ liveAt m1 k22 = true ∧ (p24 ≠ none → 0 < k15)) ∧ ∃ (x25 : Int), rd m1 k22 (offOf k23 p24 + (hash.tmod (IntKind.u64.wrap (↑k20 : Int))).toNat * 1) = some (Value.int IntKind.i64 x25) ∧ Q (Value.tuple { toList := [Value.int IntKind.i64 x25, Value.bool true] }) m1 (k2 + 22))) := by kernel_rfl

/- 63 leafmesh/spread.New -/
theorem xSpreadNew (m : Mem) (n : Nat) (Q : Value → Mem → Nat → Prop) (buckets : Int) :
 Xc Try.prog xcfg 400 fSpreadNew [Value.int IntKind.i64 buckets] m n Q =
 (bif decide (buckets < 1) then Q (Value.tuple { toList := [Value.pointer none, Value.int IntKind.i64 2] }) m n
 else bif decide (buckets > 256) then Q (Value.tuple { toList := [Value.pointer none, Value.int IntKind.i64 2] }) m n else memLet (Tr.set m n (AObj.cells none tInt 1 [Value.int IntKind.i64 (-1)])) fun (m0 : Mem) => Wc Try.prog fSlicesRepeatLintint [Value.slice (some { block := n, off := 0 }) 1 1, Value.int IntKind.i64 buckets] m0 (n + 1) fun (v1 : Value) (m2 : Mem) (k3 : Nat) => ∃ (p4 : Option Addr), ∃ (k5 : Nat), ∃ (k6 : Nat), v1 = Value.slice p4 k5 k6 ∧ Later (memLet (Tr.set m2 k3 (AObj.cells none tSpreadstate 2 [Value.slice none 0 0, Value.slice p4 k5 k6])) fun (m7 : Mem) => memLet (Tr.set m7 (k3 + 1) (AObj.cells none tSpreadWheel 1 [Value.pointer (some { block := k3, off := 0 })])) fun (m8 : Mem) => Q (Value.tuple { toList := [Value.pointer (some { block := k3 + 1, off := 0 }), Value.int IntKind.i64 0] }) m8 (k3 + 1 + 1))) := by kernel_rfl

/- 64 (*leafmesh/spread.Wheel).valid -/
theorem xSpreadWheelvalid (m : Mem) (n : Nat) (Q : Value → Mem → Nat → Prop) (w : Nat) :
 Xc Try.prog xcfg 400 fSpreadWheelvalid [Value.pointer (some { block := w, off := 0 })] m n Q =
 (isC m w = true ∧ ∃ (p0 : Option Addr), rd m w 0 = some (Value.pointer p0) ∧ Q (Value.bool !p0.isNone) m n) := by kernel_rfl

/- 65 slices.Contains[[]int,int] -/
theorem xSlicesContainsLintint (m : Mem) (n : Nat) (Q : Value → Mem → Nat → Prop) (s_a : Option Addr) (s_l : Nat) (s_c : Nat) (v : Int) :
 Xc Try.prog xcfg 400 fSlicesContainsLintint [Value.slice s_a s_l s_c, Value.int IntKind.i64 v] m n Q =
 (Wc Try.prog fSlicesIndexLintint [Value.slice s_a s_l s_c, Value.int IntKind.i64 v] m n fun (v0 : Value) (m1 : Mem) (k2 : Nat) => ∃ (x3 : Int), v0 = Value.int IntKind.i64 x3 ∧ Later (Q (Value.bool (decide (x3 ≥ 0))) m1 k2)) := by kernel_rfl

/- 66 (*leafmesh/spread.state).least -/
theorem xSpreadstateleast (m : Mem) (n : Nat) (Q : Value → Mem → Nat → Prop) (s : Nat) :
 Xc Try.prog xcfg 400 fSpreadstateleast [Value.pointer (some { block := s, off := 0 })] m n Q =
 (memLet (Tr.set m n (AObj.cells none tPspreadstate 1 [Value.pointer (some { block := s, off := 0 })])) fun (m0 : Mem) => ∃ (p1 : Option Addr), rd m0 n 0 = some (Value.pointer p1) ∧ elimP p1 False fun (k2 k3 : Nat) => isC m0 k2 = true ∧ ∃ (p4 : Option Addr), ∃ (k5 : Nat), ∃ (k6 : Nat), rd m0 k2 (k3 + 0) = some (Value.slice p4 k5 k6) ∧ Wc Try.prog fSlicesMinFuncLintint [Value.slice p4 k5 k6, Value.func (Fn.func fSpreadstateleast1) { toList := [] } { toList := [Value.pointer (some { block := n, off := 0 })] }] m0 (n + 1) fun (v7 : Value) (m8 : Mem) (k9 : Nat) => ∃ (x10 : Int), v7 = Value.int IntKind.i64 x10 ∧ Later (Q (Value.int IntKind.i64 x10) m8 k9)) := by kernel_rfl

/- 67 (*leafmesh/spread.state).load -/
theorem xSpreadstateload (m : Mem) (n : Nat) (Q : Value → Mem → Nat → Prop) (s : Nat) (member : Int) :
 Xc Try.prog xcfg 400 fSpreadstateload [Value.pointer (some { block := s, off := 0 }), Value.int IntKind.i64 member] m n Q =
 (isC m s = true ∧ ∃ (p0 : Option Addr), ∃ (k1 : Nat), ∃ (k2 : Nat), rd m s 1 = some (Value.slice p0 k1 k2) ∧ W Try.prog { fn := fSpreadstateload, nt := 24, slots := [(1, Value.int IntKind.i64 member), (5, Value.int IntKind.i64 0), (11, Value.slice p0 k1 k2), (12, Value.int IntKind.i64 (↑k1 : Int)), (13, Value.int IntKind.i64 0)], todo := pt Try.prog fSpreadstateload [1, 1, 0, 1, 0, 0] } m n Q) := by kernel_rfl

theorem xSpreadstateloadk0 (m : Mem) (n : Nat) (Q : Value → Mem → Nat → Prop) (member : Int) (n' : Int) (t11_a : Option Addr) (t11_l : Nat) (t11_c : Nat) (t12 : Int) (t13 : Int) :
 xF (evX Try.prog xcfg 400) { fn := fSpreadstateload, nt := 24, slots := [(1, Value.int IntKind.i64 member), (5, Value.int IntKind.i64 n'), (11, Value.slice t11_a t11_l t11_c), (12, Value.int IntKind.i64 t12), (13, Value.int IntKind.i64 t13)], todo := pt Try.prog fSpreadstateload [1, 1, 0, 1, 0, 0] } m n Q =
 (bif decide (t13 < t12) then
 elimA t11_a False fun (k0 k1 : Nat) (p2 : Option Nat) =>
 (0 ≤ t13 ∧ t13 < (↑t11_l : Int) ∧ liveAt m k0 = true ∧ (p2 ≠ none → 0 < t11_c)) ∧ ∃ (x3 : Int), rd m k0 (offOf k1 p2 + t13.toNat * 1) = some (Value.int IntKind.i64 x3) ∧ bif x3 == member then W Try.prog { fn := fSpreadstateload, nt := 24, slots := [(1, Value.int IntKind.i64 member), (5, Value.int IntKind.i64 (IntKind.i64.wrap (n' + 1))), (11, Value.slice t11_a t11_l t11_c), (12, Value.int IntKind.i64 t12), (13, Value.int IntKind.i64 (IntKind.i64.wrap (t13 + 1)))], todo := pt Try.prog fSpreadstateload [1, 1, 0, 1, 0, 0] } m n Q else W Try.prog { fn := fSpreadstateload, nt := 24, slots := [(1, Value.int IntKind.i64 member), (5, Value.int IntKind.i64 n'), (11, Value.slice t11_a t11_l t11_c), (12, Value.int IntKind.i64 t12), (13, Value.int IntKind.i64 (IntKind.i64.wrap (t13 + 1)))], todo := pt Try.prog fSpreadstateload [1, 1, 0, 1, 0, 0] } m n Q
 else Q (Value.int IntKind.i64 n') m n) := by kernel_rfl

/- 68 (*leafmesh/spread.state).most -/
theorem xSpreadstatemost (m : Mem) (n : Nat) (Q : Value → Mem → Nat → Prop) (s : Nat) :
 Xc Try.prog xcfg 400 fSpreadstatemost [Value.pointer (some { block := s, off := 0 })] m n Q =
 (memLet (Tr.set m n (AObj.cells none tPspreadstate 1 [Value.pointer (some { block := s, off := 0 })])) fun (m0 : Mem) =>
 ∃ (p1 : Option Addr), rd m0 n 0 = some (Value.pointer p1) ∧ elimP p1 False fun (k2 k3 : Nat) => isC m0 k2 = true ∧ ∃ (p4 : Option Addr), ∃ (k5 : Nat), ∃ (k6 : Nat), rd m0 k2 (k3 + 0) = some (Value.slice p4 k5 k6) ∧ Wc Try.prog fSlicesCloneLintint [Value.slice p4 k5 k6] m0 (n + 1) fun (v7 : Value) (m8 : Mem) (k9 : Nat) => ∃ (p10 : Option Addr), ∃ (k11 : Nat), ∃ (k12 : Nat), v7 = Value.slice p10 k11 k12 ∧ Later (Wc Try.prog fSlicesReverseLintint [Value.slice p10 k11 k12] m8 k9 fun (v13 : Value) (m14 : Mem) (k15 : Nat) => v13 = Value.tuple { toList := [] } ∧ Later (Wc Try.prog fSlicesMaxFuncLintint [Value.slice p10 k11 k12, Value.func (Fn.func fSpreadstatemost1) { toList := [] } { toList := [Value.pointer (some { block := n, off := 0 })] }] m14 k15 fun (v16 : Value) (m17 : Mem) (k18 : Nat) => ∃ (x19 : Int), v16 = Value.int IntKind.i64 x19 ∧ Later (Q (Value.int IntKind.i64 x19) m17 k18)))) := by kernel_rfl

/- 69 slices.Backward[[]int,int] -/
theorem xSlicesBackwardLintint (m : Mem) (n : Nat) (Q : Value → Mem → Nat → Prop) (s_a : Option Addr) (s_l : Nat) (s_c : Nat) :
 Xc Try.prog xcfg 400 fSlicesBackwardLintint [Value.slice s_a s_l s_c] m n Q =
 (memLet (Tr.set m n (AObj.cells none tLint 1 [Value.slice s_a s_l s_c])) fun (m0 : Mem) => Q (Value.func (Fn.func fSlicesBackwardLintint1) { toList := [] } { toList := [Value.pointer (some { block := n, off := 0 })] }) m0 (n + 1)) := by kernel_rfl

/- 70 slices.BinarySearchFunc[[]leafmesh/fib.entry,leafmesh/fib.entry,leafmesh/api.IP] -/
theorem xSlicesBinarySearchFuncLfibentryfibentryapiIP (m : Mem) (n : Nat) (Q : Value → Mem → Nat → Prop) (x_a : Option Addr) (x_l : Nat) (x_c : Nat) (target : Int) (cmp_g : Nat) (cmp_f : List Value) (cmp_k : List Value) :
 Xc Try.prog xcfg 400 fSlicesBinarySearchFuncLfibentryfibentryapiIP [Value.slice x_a x_l x_c, Value.int IntKind.u32 target, Value.func (Fn.func cmp_g) { toList := cmp_f } { toList := cmp_k }] m n Q =
 (W Try.prog { fn := fSlicesBinarySearchFuncLfibentryfibentryapiIP, nt := 49, slots := [(0, Value.slice x_a x_l x_c), (1, Value.int IntKind.u32 target), (2, Value.func (Fn.func cmp_g) { toList := cmp_f } { toList := cmp_k }), (8, Value.int IntKind.i64 (↑x_l : Int)), (9, Value.int IntKind.i64 0), (10, Value.int IntKind.i64 (↑x_l : Int))], todo := pt Try.prog fSlicesBinarySearchFuncLfibentryfibentryapiIP [1, 1, 1, 0, 0, 0] } m n Q) := by kernel_rfl

theorem xSlicesBinarySearchFuncLfibentryfibentryapiIPk0 (m : Mem) (n : Nat) (Q : Value → Mem → Nat → Prop) (x_a : Option Addr) (x_l : Nat) (x_c : Nat) (target : Int) (cmp_g : Nat) (cmp_f : List Value) (cmp_k : List Value) (n' : Int) (i : Int) (j : Int) :
 xF (evX Try.prog xcfg 400) { fn := fSlicesBinarySearchFuncLfibentryfibentryapiIP, nt := 49, slots := [(0, Value.slice x_a x_l x_c), (1, Value.int IntKind.u32 target), (2, Value.func (Fn.func cmp_g) { toList := cmp_f } { toList := cmp_k }), (8, Value.int IntKind.i64 n'), (9, Value.int IntKind.i64 i), (10, Value.int IntKind.i64 j)], todo := pt Try.prog fSlicesBinarySearchFuncLfibentryfibentryapiIP [1, 1, 1, 0, 0, 0] } m n Q =
 (bif decide (i < j) then
 (0 : Int) ≤ 1 ∧
 elimA x_a False fun (k0 k1 : Nat) (p2 : Option Nat) =>
 (0 ≤ IntKind.i64.wrap ((IntKind.u64.wrap (IntKind.i64.wrap (i + j))).fdiv 2) ∧ IntKind.i64.wrap ((IntKind.u64.wrap (IntKind.i64.wrap (i + j))).fdiv 2) < (↑x_l : Int) ∧ liveAt m k0 = true ∧ (p2 ≠ none → 0 < x_c)) ∧
 ∃ (x3 : Int),
 ∃ (p4 : Option Addr),
 ∃ (k5 : Nat),
 ∃ (k6 : Nat),
 rds m k0 (offOf k1 p2 + (IntKind.i64.wrap ((IntKind.u64.wrap (IntKind.i64.wrap (i + j))).fdiv 2)).toNat * 2) 2 = some [Value.int IntKind.u32 x3, Value.slice p4 k5 k6] ∧
 Wc Try.prog cmp_g (cmp_f ++ [Value.agg { toList := [Value.int IntKind.u32 x3, Value.slice p4 k5 k6] }, Value.int IntKind.u32 target] ++ cmp_k) m n fun (v7 : Value) (m8 : Mem) (k9 : Nat) =>
 ∃ (x10 : Int),
 v7 = Value.int IntKind.i64 x10 ∧
 Later
 (bif decide (x10 < 0) then W Try.prog { fn := fSlicesBinarySearchFuncLfibentryfibentryapiIP, nt := 49, slots := [(0, Value.slice x_a x_l x_c), (1, Value.int IntKind.u32 target), (2, Value.func (Fn.func cmp_g) { toList := cmp_f } { toList := cmp_k }), (8, Value.int IntKind.i64 n'), (9, Value.int IntKind.i64 (IntKind.i64.wrap (IntKind.i64.wrap ((IntKind.u64.wrap (IntKind.i64.wrap (i + j))).fdiv 2) + 1))), (10, Value.int IntKind.i64 j)], todo := pt Try.prog fSlicesBinarySearchFuncLfibentryfibentryapiIP [1, 1, 1, 0, 0, 0] } m8 k9 Q
 else W Try.prog { fn := fSlicesBinarySearchFuncLfibentryfibentryapiIP, nt := 49, slots := [(0, Value.slice x_a x_l x_c), (1, Value.int IntKind.u32 target), (2, Value.func (Fn.func cmp_g) { toList := cmp_f } { toList := cmp_k }), (8, Value.int IntKind.i64 n'), (9, Value.int IntKind.i64 i), (10, Value.int IntKind.i64 (IntKind.i64.wrap ((IntKind.u64.wrap (IntKind.i64.wrap (i + j))).fdiv 2)))], todo := pt Try.prog fSlicesBinarySearchFuncLfibentryfibentryapiIP [1, 1, 1, 0, 0, 0] } m8 k9 Q)
 else bif decide (i < n') then elimA x_a False fun (k11 k12 : Nat) (p13 : Option Nat) => (0 ≤ i ∧ i < (↑x_l : Int) ∧ liveAt m k11 = true ∧ (p13 ≠ none → 0 < x_c)) ∧ ∃ (x14 : Int), ∃ (p15 : Option Addr), ∃ (k16 : Nat), ∃ (k17 : Nat), rds m k11 (offOf k12 p13 + i.toNat * 2) 2 = some [Value.int IntKind.u32 x14, Value.slice p15 k16 k17] ∧ Wc Try.prog cmp_g (cmp_f ++ [Value.agg { toList := [Value.int IntKind.u32 x14, Value.slice p15 k16 k17] }, Value.int IntKind.u32 target] ++ cmp_k) m n fun (v18 : Value) (m19 : Mem) (k20 : Nat) => ∃ (x21 : Int), v18 = Value.int IntKind.i64 x21 ∧ Later (Q (Value.tuple { toList := [Value.int IntKind.i64 i, Value.bool (x21 == 0)] }) m19 k20) else Q (Value.tuple { toList := [Value.int IntKind.i64 i, Value.bool false] }) m n) := by kernel_rfl

/- 71 (leafmesh/fib.entry).compare -/
theorem xFibentrycompare (m : Mem) (n : Nat) (Q : Value → Mem → Nat → Prop) (e0 : Int) (e1_a : Option Addr) (e1_l : Nat) (e1_c : Nat) (ip : Int) :
 Xc Try.prog xcfg 400 fFibentrycompare [Value.agg { toList := [Value.int IntKind.u32 e0, Value.slice e1_a e1_l e1_c] }, Value.int IntKind.u32 ip] m n Q =
 (memLet (Tr.set m n (AObj.cells none tFibentry 2 [Value.int IntKind.u32 e0, Value.slice e1_a e1_l e1_c])) fun (m0 : Mem) => isC m0 n = true ∧ ∃ (x1 : Int), rd m0 n 0 = some (Value.int IntKind.u32 x1) ∧ Wc Try.prog fCmpCompareapiIP [Value.int IntKind.u32 x1, Value.int IntKind.u32 ip] m0 (n + 1) fun (v2 : Value) (m3 : Mem) (k4 : Nat) => ∃ (x5 : Int), v2 = Value.int IntKind.i64 x5 ∧ Later (Q (Value.int IntKind.i64 x5) m3 k4)) := by kernel_rfl

/- 72 leafmesh/spf.valid$1 -/
theorem xSpfvalid1 (m : Mem) (n : Nat) (Q : Value → Mem → Nat → Prop) (n' : Int) (t1 : Nat) :
 Xc Try.prog xcfg 400 fSpfvalid1 [Value.int IntKind.i64 n', Value.pointer (some { block := t1, off := 0 })] m n Q =
 (bif decide (n' ≥ 0) then ∃ (x0 : Int), rd m t1 0 = some (Value.int IntKind.i64 x0) ∧ Q (Value.bool (decide (n' < x0))) m n else Q (Value.bool false) m n) := by kernel_rfl

/- 73 slices.ContainsFunc[[]int,int] -/
theorem xSlicesContainsFuncLintint (m : Mem) (n : Nat) (Q : Value → Mem → Nat → Prop) (s_a : Option Addr) (s_l : Nat) (s_c : Nat) (f_g : Nat) (f_f : List Value) (f_k : List Value) :
 Xc Try.prog xcfg 400 fSlicesContainsFuncLintint [Value.slice s_a s_l s_c, Value.func (Fn.func f_g) { toList := f_f } { toList := f_k }] m n Q =
 (Wc Try.prog fSlicesIndexFuncLintint [Value.slice s_a s_l s_c, Value.func (Fn.func f_g) { toList := f_f } { toList := f_k }] m n fun (v0 : Value) (m1 : Mem) (k2 : Nat) => ∃ (x3 : Int), v0 = Value.int IntKind.i64 x3 ∧ Later (Q (Value.bool (decide (x3 ≥ 0))) m1 k2)) := by kernel_rfl

/- 74 leafmesh/spf.valid$2 -/
theorem xSpfvalid2 (m : Mem) (n : Nat) (Q : Value → Mem → Nat → Prop) (n' : Int) (t1 : Nat) :
 Xc Try.prog xcfg 400 fSpfvalid2 [Value.int IntKind.i64 n', Value.pointer (some { block := t1, off := 0 })] m n Q =
 (∃ (y0 : FuncId), ∃ (l1 : List Value), ∃ (l2 : List Value), rd m t1 0 = some (Value.func (Fn.func y0) { toList := l1 } { toList := l2 }) ∧ Wc Try.prog y0 (l1 ++ [Value.int IntKind.i64 n'] ++ l2) m n fun (v3 : Value) (m4 : Mem) (k5 : Nat) => ∃ (b6 : Bool), v3 = Value.bool b6 ∧ Later (Q (Value.bool !b6) m4 k5)) := by kernel_rfl

/- 75 math/bits.Mul -/
theorem xMathbitsMul (m : Mem) (n : Nat) (Q : Value → Mem → Nat → Prop) (x : Int) (y : Int) :
 Xc Try.prog xcfg 400 fMathbitsMul [Value.int IntKind.u64 x, Value.int IntKind.u64 y] m n Q =
 (Wc Try.prog fMathbitsMul64 [Value.int IntKind.u64 x, Value.int IntKind.u64 y] m n fun (v0 : Value) (m1 : Mem) (k2 : Nat) => ∃ (x3 : Int), ∃ (x4 : Int), v0 = Value.tuple { toList := [Value.int IntKind.u64 x3, Value.int IntKind.u64 x4] } ∧ Later (Q (Value.tuple { toList := [Value.int IntKind.u64 x3, Value.int IntKind.u64 x4] }) m1 k2)) := by kernel_rfl

/- 76 container/heap.down -/
theorem xContainerheapdown (m : Mem) (n : Nat) (Q : Value → Mem → Nat → Prop) (h : Nat) (i0 : Int) (n' : Int) :
 Xc Try.prog xcfg 400 fContainerheapdown [Value.iface tPspfqueue (Value.pointer (some { block := h, off := 0 })), Value.int IntKind.i64 i0, Value.int IntKind.i64 n'] m n Q =
 (W Try.prog { fn := fContainerheapdown, nt := 48, slots := [(0, Value.iface tPspfqueue (Value.pointer (some { block := h, off := 0 }))), (1, Value.int IntKind.i64 i0), (2, Value.int IntKind.i64 n'), (7, Value.int IntKind.i64 i0)], todo := pt Try.prog fContainerheapdown [1, 1, 0, 0, 0] } m n Q) := by kernel_rfl

theorem xContainerheapdownk0 (m : Mem) (n : Nat) (Q : Value → Mem → Nat → Prop) (h : Nat) (i0 : Int) (n' : Int) (i : Int) :
 xF (evX Try.prog xcfg 400) { fn := fContainerheapdown, nt := 48, slots := [(0, Value.iface tPspfqueue (Value.pointer (some { block := h, off := 0 }))), (1, Value.int IntKind.i64 i0), (2, Value.int IntKind.i64 n'), (7, Value.int IntKind.i64 i)], todo := pt Try.prog fContainerheapdown [1, 1, 0, 0, 0] } m n Q =
 (bif decide (IntKind.i64.wrap (IntKind.i64.wrap (2 * i) + 1) ≥ n') then Q (Value.bool (decide (i > i0))) m n
 else
 bif decide (IntKind.i64.wrap (IntKind.i64.wrap (2 * i) + 1) < 0) then Q (Value.bool (decide (i > i0))) m n
 else
 bif decide (IntKind.i64.wrap (IntKind.i64.wrap (IntKind.i64.wrap (2 * i) + 1) + 1) < n') then
 ∃ (p0 : Option Addr),
 ∃ (k1 : Nat),
 ∃ (k2 : Nat),
 rd m h 0 = some (Value.slice p0 k1 k2) ∧
 Wc Try.prog fSpfqueueLess [Value.slice p0 k1 k2, Value.int IntKind.i64 (IntKind.i64.wrap (IntKind.i64.wrap (IntKind.i64.wrap (2 * i) + 1) + 1)), Value.int IntKind.i64 (IntKind.i64.wrap (IntKind.i64.wrap (2 * i) + 1))] m n fun (v3 : Value) (m4 : Mem) (k5 : Nat) =>
 ∃ (b6 : Bool),
 v3 = Value.bool b6 ∧
 Later
 (bif b6 then
 ∃ (p7 : Option Addr),
 ∃ (k8 : Nat),
 ∃ (k9 : Nat),
 rd m4 h 0 = some (Value.slice p7 k8 k9) ∧
 Wc Try.prog fSpfqueueLess [Value.slice p7 k8 k9, Value.int IntKind.i64 (IntKind.i64.wrap (IntKind.i64.wrap (IntKind.i64.wrap (2 * i) + 1) + 1)), Value.int IntKind.i64 i] m4 k5 fun (v10 : Value) (m11 : Mem) (k12 : Nat) =>
 ∃ (b13 : Bool), v10 = Value.bool b13 ∧ Later (bif !b13 then Q (Value.bool (decide (i > i0))) m11 k12 else ∃ (p14 : Option Addr), ∃ (k15 : Nat), ∃ (k16 : Nat), rd m11 h 0 = some (Value.slice p14 k15 k16) ∧ Wc Try.prog fSpfqueueSwap [Value.slice p14 k15 k16, Value.int IntKind.i64 i, Value.int IntKind.i64 (IntKind.i64.wrap (IntKind.i64.wrap (IntKind.i64.wrap (2 * i) + 1) + 1))] m11 k12 fun (v17 : Value) (m18 : Mem) (k19 : Nat) => v17 = Value.tuple { toList := [] } ∧ Later (W Try.prog { fn := fContainerheapdown, nt := 48, slots := [(0, Value.iface tPspfqueue (Value.pointer (some { block := h, off := 0 }))), (1, Value.int IntKind.i64 i0), (2, Value.int IntKind.i64 n'), (7, Value.int IntKind.i64 (IntKind.i64.wrap (IntKind.i64.wrap (IntKind.i64.wrap (2 * i) + 1) + 1)))], todo := pt Try.prog fContainerheapdown [1, 1, 0, 0, 0] } m18 k19 Q))
 else
 ∃ (p20 : Option Addr),
 ∃ (k21 : Nat),
 ∃ (k22 : Nat),
 rd m4 h 0 = some (Value.slice p20 k21 k22) ∧
 Wc Try.prog fSpfqueueLess [Value.slice p20 k21 k22, Value.int IntKind.i64 (IntKind.i64.wrap (IntKind.i64.wrap (2 * i) + 1)), Value.int IntKind.i64 i] m4 k5 fun (v23 : Value) (m24 : Mem) (k25 : Nat) =>
 ∃ (b26 : Bool), v23 = Value.bool b26 ∧ Later (bif !b26 then Q (Value.bool (decide (i > i0))) m24 k25 else ∃ (p27 : Option Addr), ∃ (k28 : Nat), ∃ (k29 : Nat), rd m24 h 0 = some (Value.slice p27 k28 k29) ∧ Wc Try.prog fSpfqueueSwap [Value.slice p27 k28 k29, Value.int IntKind.i64 i, Value.int IntKind.i64 (IntKind.i64.wrap (IntKind.i64.wrap (2 * i) + 1))] m24 k25 fun (v30 : Value) (m31 : Mem) (k32 : Nat) => v30 = Value.tuple { toList := [] } ∧ Later (W Try.prog { fn := fContainerheapdown, nt := 48, slots := [(0, Value.iface tPspfqueue (Value.pointer (some { block := h, off := 0 }))), (1, Value.int IntKind.i64 i0), (2, Value.int IntKind.i64 n'), (7, Value.int IntKind.i64 (IntKind.i64.wrap (IntKind.i64.wrap (2 * i) + 1)))], todo := pt Try.prog fContainerheapdown [1, 1, 0, 0, 0] } m31 k32 Q)))
 else
 ∃ (p33 : Option Addr),
 ∃ (k34 : Nat),
 ∃ (k35 : Nat),
 rd m h 0 = some (Value.slice p33 k34 k35) ∧
 Wc Try.prog fSpfqueueLess [Value.slice p33 k34 k35, Value.int IntKind.i64 (IntKind.i64.wrap (IntKind.i64.wrap (2 * i) + 1)), Value.int IntKind.i64 i] m n fun (v36 : Value) (m37 : Mem) (k38 : Nat) =>
 ∃ (b39 : Bool), v36 = Value.bool b39 ∧ Later (bif !b39 then Q (Value.bool (decide (i > i0))) m37 k38 else ∃ (p40 : Option Addr), ∃ (k41 : Nat), ∃ (k42 : Nat), rd m37 h 0 = some (Value.slice p40 k41 k42) ∧ Wc Try.prog fSpfqueueSwap [Value.slice p40 k41 k42, Value.int IntKind.i64 i, Value.int IntKind.i64 (IntKind.i64.wrap (IntKind.i64.wrap (2 * i) + 1))] m37 k38 fun (v43 : Value) (m44 : Mem) (k45 : Nat) => v43 = Value.tuple { toList := [] } ∧ Later (W Try.prog { fn := fContainerheapdown, nt := 48, slots := [(0, Value.iface tPspfqueue (Value.pointer (some { block := h, off := 0 }))), (1, Value.int IntKind.i64 i0), (2, Value.int IntKind.i64 n'), (7, Value.int IntKind.i64 (IntKind.i64.wrap (IntKind.i64.wrap (2 * i) + 1)))], todo := pt Try.prog fContainerheapdown [1, 1, 0, 0, 0] } m44 k45 Q))) := by kernel_rfl

/- 77 leafmesh/spf.filter[leafmesh/api.Link]$1 -/
theorem xSpffilterapiLink1 (m : Mem) (n : Nat) (Q : Value → Mem → Nat → Prop) (yieldY : Nat) (t1 : Nat) (t2 : Nat) :
 Xc Try.prog xcfg 400 fSpffilterapiLink1 [Value.func (Fn.yield yieldY) { toList := [] } { toList := [] }, Value.pointer (some { block := t1, off := 0 }), Value.pointer (some { block := t2, off := 0 })] m n Q =
 (∃ (p0 : Option Addr), ∃ (k1 : Nat), ∃ (k2 : Nat), rd m t1 0 = some (Value.slice p0 k1 k2) ∧ W Try.prog { fn := fSpffilterapiLink1, nt := 25, slots := [(0, Value.func (Fn.yield yieldY) { toList := [] } { toList := [] }), (2, Value.pointer (some { block := t2, off := 0 })), (6, Value.slice p0 k1 k2), (7, Value.int IntKind.i64 (↑k1 : Int)), (8, Value.int IntKind.i64 0)], todo := pt Try.prog fSpffilterapiLink1 [1, 0, 0] } m n Q) := by kernel_rfl

theorem xSpffilterapiLink1k0 (m : Mem) (n : Nat) (Q : Value → Mem → Nat → Prop) (yieldY : Nat) (t2 : Nat) (t6_a : Option Addr) (t6_l : Nat) (t6_c : Nat) (t7 : Int) (t8 : Int) :
 xF (evX Try.prog xcfg 400) { fn := fSpffilterapiLink1, nt := 25, slots := [(0, Value.func (Fn.yield yieldY) { toList := [] } { toList := [] }), (2, Value.pointer (some { block := t2, off := 0 })), (6, Value.slice t6_a t6_l t6_c), (7, Value.int IntKind.i64 t7), (8, Value.int IntKind.i64 t8)], todo := pt Try.prog fSpffilterapiLink1 [1, 0, 0] } m n Q =
 (bif decide (t8 < t7) then
 elimA t6_a False fun (k0 k1 : Nat) (p2 : Option Nat) =>
 (0 ≤ t8 ∧ t8 < (↑t6_l : Int) ∧ liveAt m k0 = true ∧ (p2 ≠ none → 0 < t6_c)) ∧
 ∃ (x3 : Int),
 ∃ (x4 : Int),
 ∃ (x5 : Int),
 rds m k0 (offOf k1 p2 + t8.toNat * 3) 3 = some [Value.int IntKind.i64 x3, Value.int IntKind.i64 x4, Value.int IntKind.i64 x5] ∧
 memLet (Tr.set m n (AObj.cells none tApiLink 3 [Value.int IntKind.i64 0, Value.int IntKind.i64 0, Value.int IntKind.i64 0])) fun (m6 : Mem) =>
 ∃ (m7 : Mem),
 storeCs m6 n 0 [Value.int IntKind.i64 x3, Value.int IntKind.i64 x4, Value.int IntKind.i64 x5] = some m7 ∧
 ∃ (p8 : Option Addr),
 ∃ (k9 : Nat),
 ∃ (k10 : Nat),
 rd m7 t2 0 = some (Value.slice p8 k9 k10) ∧
 elimA p8 False fun (k11 k12 : Nat) (p13 : Option Nat) =>
 (0 ≤ t8 ∧ t8 < (↑k9 : Int) ∧ liveAt m7 k11 = true ∧ (p13 ≠ none → 0 < k10)) ∧
 ∃ (b14 : Bool),
 rd m7 k11 (offOf k12 p13 + t8.toNat * 1) = some (Value.bool b14) ∧
 bif b14 then
 ∃ (x15 : Int),
 ∃ (x16 : Int), ∃ (x17 : Int), rds m7 n 0 3 = some [Value.int IntKind.i64 x15, Value.int IntKind.i64 x16, Value.int IntKind.i64 x17] ∧ ∃ (y18 : AFrame), roundA m7 yieldY [Value.int IntKind.i64 t8, Value.agg { toList := [Value.int IntKind.i64 x15, Value.int IntKind.i64 x16, Value.int IntKind.i64 x17] }] = some y18 ∧ W Try.prog y18 m7 (n + 1) fun (v19 : Value) (m20 : Mem) (k21 : Nat) => ∃ (b22 : Bool), v19 = Value.bool b22 ∧ Later (bif !b22 then Q (Value.tuple { toList := [] }) m20 k21 else W Try.prog { fn := fSpffilterapiLink1, nt := 25, slots := [(0, Value.func (Fn.yield yieldY) { toList := [] } { toList := [] }), (2, Value.pointer (some { block := t2, off := 0 })), (6, Value.slice t6_a t6_l t6_c), (7, Value.int IntKind.i64 t7), (8, Value.int IntKind.i64 (IntKind.i64.wrap (t8 + 1)))], todo := pt Try.prog fSpffilterapiLink1 [1, 0, 0] } m20 k21 Q)
 else W Try.prog { fn := fSpffilterapiLink1, nt := 25, slots := [(0, Value.func (Fn.yield yieldY) { toList := [] } { toList := [] }), (2, Value.pointer (some { block := t2, off := 0 })), (6, Value.slice t6_a t6_l t6_c), (7, Value.int IntKind.i64 t7), (8, Value.int IntKind.i64 (IntKind.i64.wrap (t8 + 1)))], todo := pt Try.prog fSpffilterapiLink1 [1, 0, 0] } m7 (n + 1) Q
 else Q (Value.tuple { toList := [] }) m n) := by kernel_rfl

/- 78 container/heap.up -/
theorem xContainerheapup (m : Mem) (n : Nat) (Q : Value → Mem → Nat → Prop) (h : Nat) (j : Int) :
 Xc Try.prog xcfg 400 fContainerheapup [Value.iface tPspfqueue (Value.pointer (some { block := h, off := 0 })), Value.int IntKind.i64 j] m n Q =
 (W Try.prog { fn := fContainerheapup, nt := 23, slots := [(0, Value.iface tPspfqueue (Value.pointer (some { block := h, off := 0 }))), (1, Value.int IntKind.i64 j)], todo := pt Try.prog fContainerheapup [0, 0] } m n Q) := by kernel_rfl

theorem xContainerheapupk0 (m : Mem) (n : Nat) (Q : Value → Mem → Nat → Prop) (h : Nat) (j_1 : Int) :
 xF (evX Try.prog xcfg 400) { fn := fContainerheapup, nt := 23, slots := [(0, Value.iface tPspfqueue (Value.pointer (some { block := h, off := 0 }))), (1, Value.int IntKind.i64 j_1)], todo := pt Try.prog fContainerheapup [0, 0] } m n Q =
 ((2 : Int) ≠ 0 ∧
 bif IntKind.i64.wrap ((IntKind.i64.wrap (j_1 - 1)).tdiv 2) == j_1 then Q (Value.tuple { toList := [] }) m n
 else
 ∃ (p0 : Option Addr),
 ∃ (k1 : Nat),
 ∃ (k2 : Nat),
 rd m h 0 = some (Value.slice p0 k1 k2) ∧
 Wc Try.prog fSpfqueueLess [Value.slice p0 k1 k2, Value.int IntKind.i64 j_1, Value.int IntKind.i64 (IntKind.i64.wrap ((IntKind.i64.wrap (j_1 - 1)).tdiv 2))] m n fun (v3 : Value) (m4 : Mem) (k5 : Nat) =>
 ∃ (b6 : Bool), v3 = Value.bool b6 ∧ Later (bif !b6 then Q (Value.tuple { toList := [] }) m4 k5 else ∃ (p7 : Option Addr), ∃ (k8 : Nat), ∃ (k9 : Nat), rd m4 h 0 = some (Value.slice p7 k8 k9) ∧ Wc Try.prog fSpfqueueSwap [Value.slice p7 k8 k9, Value.int IntKind.i64 (IntKind.i64.wrap ((IntKind.i64.wrap (j_1 - 1)).tdiv 2)), Value.int IntKind.i64 j_1] m4 k5 fun (v10 : Value) (m11 : Mem) (k12 : Nat) => v10 = Value.tuple { toList := [] } ∧ Later (W Try.prog { fn := fContainerheapup, nt := 23, slots := [(0, Value.iface tPspfqueue (Value.pointer (some { block := h, off := 0 }))), (1, Value.int IntKind.i64 (IntKind.i64.wrap ((IntKind.i64.wrap (j_1 - 1)).tdiv 2)))], todo := pt Try.prog fContainerheapup [0, 0] } m11 k12 Q))) := by kernel_rfl

/- 82 slices.Index[[]int,int] -/
theorem xSlicesIndexLintint (m : Mem) (n : Nat) (Q : Value → Mem → Nat → Prop) (s_a : Option Addr) (s_l : Nat) (s_c : Nat) (v : Int) :
 Xc Try.prog xcfg 400 fSlicesIndexLintint [Value.slice s_a s_l s_c, Value.int IntKind.i64 v] m n Q =
 (W Try.prog { fn := fSlicesIndexLintint, nt := 19, slots := [(0, Value.slice s_a s_l s_c), (1, Value.int IntKind.i64 v), (7, Value.int IntKind.i64 (↑s_l : Int)), (8, Value.int IntKind.i64 0)], todo := pt Try.prog fSlicesIndexLintint [1, 0, 1, 0, 0] } m n Q) := by kernel_rfl

theorem xSlicesIndexLintintk0 (m : Mem) (n : Nat) (Q : Value → Mem → Nat → Prop) (s_a : Option Addr) (s_l : Nat) (s_c : Nat) (v : Int) (t7 : Int) (t8 : Int) :
 xF (evX Try.prog xcfg 400) { fn := fSlicesIndexLintint, nt := 19, slots := [(0, Value.slice s_a s_l s_c), (1, Value.int IntKind.i64 v), (7, Value.int IntKind.i64 t7), (8, Value.int IntKind.i64 t8)], todo := pt Try.prog fSlicesIndexLintint [1, 0, 1, 0, 0] } m n Q =
 (bif decide (t8 < t7) then elimA s_a False fun (k0 k1 : Nat) (p2 : Option Nat) => (0 ≤ t8 ∧ t8 < (↑s_l : Int) ∧ liveAt m k0 = true ∧ (p2 ≠ none → 0 < s_c)) ∧ ∃ (x3 : Int), rd m k0 (offOf k1 p2 + t8.toNat * 1) = some (Value.int IntKind.i64 x3) ∧ bif v == x3 then Q (Value.int IntKind.i64 t8) m n else W Try.prog { fn := fSlicesIndexLintint, nt := 19, slots := [(0, Value.slice s_a s_l s_c), (1, Value.int IntKind.i64 v), (7, Value.int IntKind.i64 t7), (8, Value.int IntKind.i64 (IntKind.i64.wrap (t8 + 1)))], todo := pt Try.prog fSlicesIndexLintint [1, 0, 1, 0, 0] } m n Q else Q (Value.int IntKind.i64 (-1)) m n) := by kernel_rfl

/- 83 slices.MinFunc[[]int,int] -/
theorem xSlicesMinFuncLintint (m : Mem) (n : Nat) (Q : Value → Mem → Nat → Prop) (x_a : Option Addr) (x_l : Nat) (x_c : Nat) (cmp_g : Nat) (cmp_f : List Value) (cmp_k : List Value) :
 Xc Try.prog xcfg 400 fSlicesMinFuncLintint [Value.slice x_a x_l x_c, Value.func (Fn.func cmp_g) { toList := cmp_f } { toList := cmp_k }] m n Q =
 (bif decide ((↑x_l : Int) < 1) then False else elimA x_a False fun (k0 k1 : Nat) (p2 : Option Nat) => ((0 : Int) ≤ 0 ∧ 0 < (↑x_l : Int) ∧ liveAt m k0 = true ∧ (p2 ≠ none → 0 < x_c)) ∧ ∃ (x3 : Int), rd m k0 (offOf k1 p2 + 0) = some (Value.int IntKind.i64 x3) ∧ W Try.prog { fn := fSlicesMinFuncLintint, nt := 33, slots := [(0, Value.slice x_a x_l x_c), (1, Value.func (Fn.func cmp_g) { toList := cmp_f } { toList := cmp_k }), (5, Value.int IntKind.i64 x3), (6, Value.int IntKind.i64 1)], todo := pt Try.prog fSlicesMinFuncLintint [1, 1, 1, 0, 1, 0, 0] } m n Q) := by kernel_rfl

theorem xSlicesMinFuncLintintk0 (m : Mem) (n : Nat) (Q : Value → Mem → Nat → Prop) (x_a : Option Addr) (x_l : Nat) (x_c : Nat) (cmp_g : Nat) (cmp_f : List Value) (cmp_k : List Value) (m' : Int) (i : Int) :
 xF (evX Try.prog xcfg 400) { fn := fSlicesMinFuncLintint, nt := 33, slots := [(0, Value.slice x_a x_l x_c), (1, Value.func (Fn.func cmp_g) { toList := cmp_f } { toList := cmp_k }), (5, Value.int IntKind.i64 m'), (6, Value.int IntKind.i64 i)], todo := pt Try.prog fSlicesMinFuncLintint [1, 1, 1, 0, 1, 0, 0] } m n Q =
 (bif decide (i < (↑x_l : Int)) then
 elimA x_a False fun (k0 k1 : Nat) (p2 : Option Nat) =>
 (0 ≤ i ∧ i < (↑x_l : Int) ∧ liveAt m k0 = true ∧ (p2 ≠ none → 0 < x_c)) ∧
 ∃ (x3 : Int),
 rd m k0 (offOf k1 p2 + i.toNat * 1) = some (Value.int IntKind.i64 x3) ∧
 Wc Try.prog cmp_g (cmp_f ++ [Value.int IntKind.i64 x3, Value.int IntKind.i64 m'] ++ cmp_k) m n fun (v4 : Value) (m5 : Mem) (k6 : Nat) =>
 ∃ (x7 : Int),
 v4 = Value.int IntKind.i64 x7 ∧
 Later
 (bif decide (x7 < 0) then elimA x_a False fun (k8 k9 : Nat) (p10 : Option Nat) => (0 ≤ i ∧ i < (↑x_l : Int) ∧ liveAt m5 k8 = true ∧ (p10 ≠ none → 0 < x_c)) ∧ ∃ (x11 : Int), rd m5 k8 (offOf k9 p10 + i.toNat * 1) = some (Value.int IntKind.i64 x11) ∧ W Try.prog { fn := fSlicesMinFuncLintint, nt := 33, slots := [(0, Value.slice x_a x_l x_c), (1, Value.func (Fn.func cmp_g) { toList := cmp_f } { toList := cmp_k }), (5, Value.int IntKind.i64 x11), (6, Value.int IntKind.i64 (IntKind.i64.wrap (i + 1)))], todo := pt Try.prog fSlicesMinFuncLintint [1, 1, 1, 0, 1, 0, 0] } m5 k6 Q
 else W Try.prog { fn := fSlicesMinFuncLintint, nt := 33, slots := [(0, Value.slice x_a x_l x_c), (1, Value.func (Fn.func cmp_g) { toList := cmp_f } { toList := cmp_k }), (5, Value.int IntKind.i64 m'), (6, Value.int IntKind.i64 (IntKind.i64.wrap (i + 1)))], todo := pt Try.prog fSlicesMinFuncLintint [1, 1, 1, 0, 1, 0, 0] } m5 k6 Q)
 else Q (Value.int IntKind.i64 m') m n) := by kernel_rfl

/- 84 (*leafmesh/spread.state).least$1 -/
theorem xSpreadstateleast1 (m : Mem) (n : Nat) (Q : Value → Mem → Nat → Prop) (a : Int) (b : Int) (t2 : Nat) :
 Xc Try.prog xcfg 400 fSpreadstateleast1 [Value.int IntKind.i64 a, Value.int IntKind.i64 b, Value.pointer (some { block := t2, off := 0 })] m n Q =
 (∃ (p0 : Option Addr), rd m t2 0 = some (Value.pointer p0) ∧ ∃ (x1 : Int), ∃ (m2 : Mem), ∃ (k3 : Nat), (Wc Try.prog fSpreadstateload [Value.pointer p0, Value.int IntKind.i64 a] m (n + 8) fun (v4 : Value) (m5 : Mem) (k6 : Nat) => v4 = Value.int IntKind.i64 x1 ∧ m5 = m2 ∧ k6 = k3) ∧ Later (∃ (p7 : Option Addr), rd m2 t2 0 = some (Value.pointer p7) ∧ ∃ (x8 : Int), ∃ (m9 : Mem), ∃ (k10 : Nat), (Wc Try.prog fSpreadstateload [Value.pointer p7, Value.int IntKind.i64 b] m2 k3 fun (v11 : Value) (m12 : Mem) (k13 : Nat) => v11 = Value.int IntKind.i64 x8 ∧ m12 = m9 ∧ k13 = k10) ∧ Later ((∃ (p14 : Option Addr), rd m t2 0 = some (Value.pointer p14) ∧ Value.pointer p14 = Value.pointer p7) ∧ n + 8 ≤ k3 ∧ n + 8 ≤ k10 ∧ Q (Value.int IntKind.i64 (IntKind.i64.wrap (x1 - x8))) m9 k10))) := by kernel_rfl

/- 85 slices.Reverse[[]int,int] -/
theorem xSlicesReverseLintint (m : Mem) (n : Nat) (Q : Value → Mem → Nat → Prop) (s_a : Option Addr) (s_l : Nat) (s_c : Nat) :
 Xc Try.prog xcfg 400 fSlicesReverseLintint [Value.slice s_a s_l s_c] m n Q =
 (W Try.prog { fn := fSlicesReverseLintint, nt := 28, slots := [(0, Value.slice s_a s_l s_c), (2, Value.int IntKind.i64 0), (3, Value.int IntKind.i64 (IntKind.i64.wrap ((↑s_l : Int) - 1)))], todo := pt Try.prog fSlicesReverseLintint [1, 0, 0] } m n Q) := by kernel_rfl

theorem xSlicesReverseLintintk0 (m : Mem) (n : Nat) (Q : Value → Mem → Nat → Prop) (s_a : Option Addr) (s_l : Nat) (s_c : Nat) (i : Int) (j : Int) :
 xF (evX Try.prog xcfg 400) { fn := fSlicesReverseLintint, nt := 28, slots := [(0, Value.slice s_a s_l s_c), (2, Value.int IntKind.i64 i), (3, Value.int IntKind.i64 j)], todo := pt Try.prog fSlicesReverseLintint [1, 0, 0] } m n Q =
 (bif decide (i < j) then
 elimA s_a False fun (k0 k1 : Nat) (p2 : Option Nat) =>
 (0 ≤ j ∧ j < (↑s_l : Int) ∧ liveAt m k0 = true ∧ (p2 ≠ none → 0 < s_c)) ∧
 ∃ (x3 : Int),
 rd m k0 (offOf k1 p2 + j.toNat * 1) = some (Value.int IntKind.i64 x3) ∧
 elimA s_a False fun (k4 k5 : Nat) (p6 : Option Nat) =>
 (0 ≤ i ∧ i < (↑s_l : Int) ∧ liveAt m k4 = true ∧ (p6 ≠ none → 0 < s_c)) ∧
 ∃ (x7 : Int), rd m k4 (offOf k5 p6 + i.toNat * 1) = some (Value.int IntKind.i64 x7) ∧ elimA s_a False fun (k8 k9 : Nat) (p10 : Option Nat) => (0 ≤ i ∧ i < (↑s_l : Int) ∧ liveAt m k8 = true ∧ (p10 ≠ none → 0 < s_c)) ∧ ∃ (m11 : Mem), storeCs m k8 (offOf k9 p10 + i.toNat * 1) [Value.int IntKind.i64 x3] = some m11 ∧ elimA s_a False fun (k12 k13 : Nat) (p14 : Option Nat) => (0 ≤ j ∧ j < (↑s_l : Int) ∧ liveAt m11 k12 = true ∧ (p14 ≠ none → 0 < s_c)) ∧ ∃ (m15 : Mem), storeCs m11 k12 (offOf k13 p14 + j.toNat * 1) [Value.int IntKind.i64 x7] = some m15 ∧ n + 16 ≤ n + 16 ∧ n + 16 ≤ n + 16 ∧ W Try.prog { fn := fSlicesReverseLintint, nt := 28, slots := [(0, Value.slice s_a s_l s_c), (2, Value.int IntKind.i64 (IntKind.i64.wrap (i + 1))), (3, Value.int IntKind.i64 (IntKind.i64.wrap (j - 1)))], todo := pt Try.prog fSlicesReverseLintint [1, 0, 0] } m15 (n + 16) Q
 else Q (Value.tuple { toList := [] }) m n) := by kernel_rfl

/- 86 slices.MaxFunc[[]int,int] -/
theorem xSlicesMaxFuncLintint (m : Mem) (n : Nat) (Q : Value → Mem → Nat → Prop) (x_a : Option Addr) (x_l : Nat) (x_c : Nat) (cmp_g : Nat) (cmp_f : List Value) (cmp_k : List Value) :
 Xc Try.prog xcfg 400 fSlicesMaxFuncLintint [Value.slice x_a x_l x_c, Value.func (Fn.func cmp_g) { toList := cmp_f } { toList := cmp_k }] m n Q =
 (bif decide ((↑x_l : Int) < 1) then False else elimA x_a False fun (k0 k1 : Nat) (p2 : Option Nat) => ((0 : Int) ≤ 0 ∧ 0 < (↑x_l : Int) ∧ liveAt m k0 = true ∧ (p2 ≠ none → 0 < x_c)) ∧ ∃ (x3 : Int), rd m k0 (offOf k1 p2 + 0) = some (Value.int IntKind.i64 x3) ∧ W Try.prog { fn := fSlicesMaxFuncLintint, nt := 33, slots := [(0, Value.slice x_a x_l x_c), (1, Value.func (Fn.func cmp_g) { toList := cmp_f } { toList := cmp_k }), (5, Value.int IntKind.i64 x3), (6, Value.int IntKind.i64 1)], todo := pt Try.prog fSlicesMaxFuncLintint [1, 1, 1, 0, 1, 0, 0] } m n Q) := by kernel_rfl

theorem xSlicesMaxFuncLintintk0 (m : Mem) (n : Nat) (Q : Value → Mem → Nat → Prop) (x_a : Option Addr) (x_l : Nat) (x_c : Nat) (cmp_g : Nat) (cmp_f : List Value) (cmp_k : List Value) (m' : Int) (i : Int) :
 xF (evX Try.prog xcfg 400) { fn := fSlicesMaxFuncLintint, nt := 33, slots := [(0, Value.slice x_a x_l x_c), (1, Value.func (Fn.func cmp_g) { toList := cmp_f } { toList := cmp_k }), (5, Value.int IntKind.i64 m'), (6, Value.int IntKind.i64 i)], todo := pt Try.prog fSlicesMaxFuncLintint [1, 1, 1, 0, 1, 0, 0] } m n Q =
 (bif decide (i < (↑x_l : Int)) then
 elimA x_a False fun (k0 k1 : Nat) (p2 : Option Nat) =>
 (0 ≤ i ∧ i < (↑x_l : Int) ∧ liveAt m k0 = true ∧ (p2 ≠ none → 0 < x_c)) ∧
 ∃ (x3 : Int),
 rd m k0 (offOf k1 p2 + i.toNat * 1) = some (Value.int IntKind.i64 x3) ∧
 Wc Try.prog cmp_g (cmp_f ++ [Value.int IntKind.i64 x3, Value.int IntKind.i64 m'] ++ cmp_k) m n fun (v4 : Value) (m5 : Mem) (k6 : Nat) =>
 ∃ (x7 : Int),
 v4 = Value.int IntKind.i64 x7 ∧
 Later
 (bif decide (x7 > 0) then elimA x_a False fun (k8 k9 : Nat) (p10 : Option Nat) => (0 ≤ i ∧ i < (↑x_l : Int) ∧ liveAt m5 k8 = true ∧ (p10 ≠ none → 0 < x_c)) ∧ ∃ (x11 : Int), rd m5 k8 (offOf k9 p10 + i.toNat * 1) = some (Value.int IntKind.i64 x11) ∧ W Try.prog { fn := fSlicesMaxFuncLintint, nt := 33, slots := [(0, Value.slice x_a x_l x_c), (1, Value.func (Fn.func cmp_g) { toList := cmp_f } { toList := cmp_k }), (5, Value.int IntKind.i64 x11), (6, Value.int IntKind.i64 (IntKind.i64.wrap (i + 1)))], todo := pt Try.prog fSlicesMaxFuncLintint [1, 1, 1, 0, 1, 0, 0] } m5 k6 Q
 else W Try.prog { fn := fSlicesMaxFuncLintint, nt := 33, slots := [(0, Value.slice x_a x_l x_c), (1, Value.func (Fn.func cmp_g) { toList := cmp_f } { toList := cmp_k }), (5, Value.int IntKind.i64 m'), (6, Value.int IntKind.i64 (IntKind.i64.wrap (i + 1)))], todo := pt Try.prog fSlicesMaxFuncLintint [1, 1, 1, 0, 1, 0, 0] } m5 k6 Q)
 else Q (Value.int IntKind.i64 m') m n) := by kernel_rfl

/- 87 (*leafmesh/spread.state).most$1 -/
theorem xSpreadstatemost1 (m : Mem) (n : Nat) (Q : Value → Mem → Nat → Prop) (a : Int) (b : Int) (t2 : Nat) :
 Xc Try.prog xcfg 400 fSpreadstatemost1 [Value.int IntKind.i64 a, Value.int IntKind.i64 b, Value.pointer (some { block := t2, off := 0 })] m n Q =
 (∃ (p0 : Option Addr), rd m t2 0 = some (Value.pointer p0) ∧ ∃ (x1 : Int), ∃ (m2 : Mem), ∃ (k3 : Nat), (Wc Try.prog fSpreadstateload [Value.pointer p0, Value.int IntKind.i64 a] m (n + 8) fun (v4 : Value) (m5 : Mem) (k6 : Nat) => v4 = Value.int IntKind.i64 x1 ∧ m5 = m2 ∧ k6 = k3) ∧ Later (∃ (p7 : Option Addr), rd m2 t2 0 = some (Value.pointer p7) ∧ ∃ (x8 : Int), ∃ (m9 : Mem), ∃ (k10 : Nat), (Wc Try.prog fSpreadstateload [Value.pointer p7, Value.int IntKind.i64 b] m2 k3 fun (v11 : Value) (m12 : Mem) (k13 : Nat) => v11 = Value.int IntKind.i64 x8 ∧ m12 = m9 ∧ k13 = k10) ∧ Later ((∃ (p14 : Option Addr), rd m t2 0 = some (Value.pointer p14) ∧ Value.pointer p14 = Value.pointer p7) ∧ n + 8 ≤ k3 ∧ n + 8 ≤ k10 ∧ Q (Value.int IntKind.i64 (IntKind.i64.wrap (x1 - x8))) m9 k10))) := by kernel_rfl

/- 88 slices.Backward[[]int,int]$1 -/
theorem xSlicesBackwardLintint1 (m : Mem) (n : Nat) (Q : Value → Mem → Nat → Prop) (yieldY : Nat) (t1 : Nat) :
 Xc Try.prog xcfg 400 fSlicesBackwardLintint1 [Value.func (Fn.yield yieldY) { toList := [] } { toList := [] }, Value.pointer (some { block := t1, off := 0 })] m n Q =
 (∃ (p0 : Option Addr), ∃ (k1 : Nat), ∃ (k2 : Nat), rd m t1 0 = some (Value.slice p0 k1 k2) ∧ W Try.prog { fn := fSlicesBackwardLintint1, nt := 19, slots := [(0, Value.func (Fn.yield yieldY) { toList := [] } { toList := [] }), (1, Value.pointer (some { block := t1, off := 0 })), (3, Value.int IntKind.i64 (IntKind.i64.wrap ((↑k1 : Int) - 1)))], todo := pt Try.prog fSlicesBackwardLintint1 [1, 0, 0] } m n Q) := by kernel_rfl

theorem xSlicesBackwardLintint1k0 (m : Mem) (n : Nat) (Q : Value → Mem → Nat → Prop) (yieldY : Nat) (t1 : Nat) (i : Int) :
 xF (evX Try.prog xcfg 400) { fn := fSlicesBackwardLintint1, nt := 19, slots := [(0, Value.func (Fn.yield yieldY) { toList := [] } { toList := [] }), (1, Value.pointer (some { block := t1, off := 0 })), (3, Value.int IntKind.i64 i)], todo := pt Try.prog fSlicesBackwardLintint1 [1, 0, 0] } m n Q =
 (bif decide (i ≥ 0) then ∃ (p0 : Option Addr), ∃ (k1 : Nat), ∃ (k2 : Nat), rd m t1 0 = some (Value.slice p0 k1 k2) ∧ elimA p0 False fun (k3 k4 : Nat) (p5 : Option Nat) => (0 ≤ i ∧ i < (↑k1 : Int) ∧ liveAt m k3 = true ∧ (p5 ≠ none → 0 < k2)) ∧ ∃ (x6 : Int), rd m k3 (offOf k4 p5 + i.toNat * 1) = some (Value.int IntKind.i64 x6) ∧ ∃ (y7 : AFrame), roundA m yieldY [Value.int IntKind.i64 i, Value.int IntKind.i64 x6] = some y7 ∧ W Try.prog y7 m n fun (v8 : Value) (m9 : Mem) (k10 : Nat) => ∃ (b11 : Bool), v8 = Value.bool b11 ∧ Later (bif !b11 then Q (Value.tuple { toList := [] }) m9 k10 else W Try.prog { fn := fSlicesBackwardLintint1, nt := 19, slots := [(0, Value.func (Fn.yield yieldY) { toList := [] } { toList := [] }), (1, Value.pointer (some { block := t1, off := 0 })), (3, Value.int IntKind.i64 (IntKind.i64.wrap (i - 1)))], todo := pt Try.prog fSlicesBackwardLintint1 [1, 0, 0] } m9 k10 Q)
 else Q (Value.tuple { toList := [] }) m n) := by kernel_rfl

/- 89 cmp.Compare[leafmesh/api.IP] -/
theorem xCmpCompareapiIP (m : Mem) (n : Nat) (Q : Value → Mem → Nat → Prop) (x : Int) (y : Int) :
 Xc Try.prog xcfg 400 fCmpCompareapiIP [Value.int IntKind.u32 x, Value.int IntKind.u32 y] m n Q =
 (Wc Try.prog fCmpisNaNapiIP [Value.int IntKind.u32 x] m n fun (v0 : Value) (m1 : Mem) (k2 : Nat) => ∃ (b3 : Bool), v0 = Value.bool b3 ∧ Later (Wc Try.prog fCmpisNaNapiIP [Value.int IntKind.u32 y] m1 k2 fun (v4 : Value) (m5 : Mem) (k6 : Nat) => ∃ (b7 : Bool), v4 = Value.bool b7 ∧ Later (bif b3 then bif b7 then Q (Value.int IntKind.i64 0) m5 k6 else Q (Value.int IntKind.i64 (-1)) m5 k6 else bif b7 then Q (Value.int IntKind.i64 1) m5 k6 else bif decide (x < y) then Q (Value.int IntKind.i64 (-1)) m5 k6 else bif decide (x > y) then Q (Value.int IntKind.i64 1) m5 k6 else Q (Value.int IntKind.i64 0) m5 k6))) := by kernel_rfl

/- 90 slices.IndexFunc[[]int,int] -/
theorem xSlicesIndexFuncLintint (m : Mem) (n : Nat) (Q : Value → Mem → Nat → Prop) (s_a : Option Addr) (s_l : Nat) (s_c : Nat) (f_g : Nat) (f_f : List Value) (f_k : List Value) :
 Xc Try.prog xcfg 400 fSlicesIndexFuncLintint [Value.slice s_a s_l s_c, Value.func (Fn.func f_g) { toList := f_f } { toList := f_k }] m n Q =
 (W Try.prog { fn := fSlicesIndexFuncLintint, nt := 19, slots := [(0, Value.slice s_a s_l s_c), (1, Value.func (Fn.func f_g) { toList := f_f } { toList := f_k }), (7, Value.int IntKind.i64 (↑s_l : Int)), (8, Value.int IntKind.i64 0)], todo := pt Try.prog fSlicesIndexFuncLintint [1, 0, 1, 0, 0] } m n Q) := by kernel_rfl

theorem xSlicesIndexFuncLintintk0 (m : Mem) (n : Nat) (Q : Value → Mem → Nat → Prop) (s_a : Option Addr) (s_l : Nat) (s_c : Nat) (f_g : Nat) (f_f : List Value) (f_k : List Value) (t7 : Int) (t8 : Int) :
 xF (evX Try.prog xcfg 400) { fn := fSlicesIndexFuncLintint, nt := 19, slots := [(0, Value.slice s_a s_l s_c), (1, Value.func (Fn.func f_g) { toList := f_f } { toList := f_k }), (7, Value.int IntKind.i64 t7), (8, Value.int IntKind.i64 t8)], todo := pt Try.prog fSlicesIndexFuncLintint [1, 0, 1, 0, 0] } m n Q =
 (bif decide (t8 < t7) then elimA s_a False fun (k0 k1 : Nat) (p2 : Option Nat) => (0 ≤ t8 ∧ t8 < (↑s_l : Int) ∧ liveAt m k0 = true ∧ (p2 ≠ none → 0 < s_c)) ∧ ∃ (x3 : Int), rd m k0 (offOf k1 p2 + t8.toNat * 1) = some (Value.int IntKind.i64 x3) ∧ Wc Try.prog f_g (f_f ++ [Value.int IntKind.i64 x3] ++ f_k) m n fun (v4 : Value) (m5 : Mem) (k6 : Nat) => ∃ (b7 : Bool), v4 = Value.bool b7 ∧ Later (bif b7 then Q (Value.int IntKind.i64 t8) m5 k6 else W Try.prog { fn := fSlicesIndexFuncLintint, nt := 19, slots := [(0, Value.slice s_a s_l s_c), (1, Value.func (Fn.func f_g) { toList := f_f } { toList := f_k }), (7, Value.int IntKind.i64 t7), (8, Value.int IntKind.i64 (IntKind.i64.wrap (t8 + 1)))], todo := pt Try.prog fSlicesIndexFuncLintint [1, 0, 1, 0, 0] } m5 k6 Q) else Q (Value.int IntKind.i64 (-1)) m n) := by kernel_rfl

/- 92 math/bits.Mul64 -/
theorem xMathbitsMul64 (m : Mem) (n : Nat) (Q : Value → Mem → Nat → Prop) (x : Int) (y : Int) :
 Xc Try.prog xcfg 400 fMathbitsMul64 [Value.int IntKind.u64 x, Value.int IntKind.u64 y] m n Q =
 ((0 : Int) ≤ 32 ∧
 (0 : Int) ≤ 32 ∧
 (0 : Int) ≤ 32 ∧
 (0 : Int) ≤ 32 ∧
 (0 : Int) ≤ 32 ∧
 Q
 (Value.tuple
 { toList :=
 [Value.int IntKind.u64
 (IntKind.u64.wrap
 (IntKind.u64.wrap (IntKind.u64.wrap (x.fdiv 4294967296 * y.fdiv 4294967296) + (IntKind.u64.wrap (IntKind.u64.wrap (x.fdiv 4294967296 * IntKind.u64.wrap (↑(BitVec.ofInt 64 y &&& BitVec.ofInt 64 4294967295).toNat : Int)) + (IntKind.u64.wrap (IntKind.u64.wrap (↑(BitVec.ofInt 64 x &&& BitVec.ofInt 64 4294967295).toNat : Int) * IntKind.u64.wrap (↑(BitVec.ofInt 64 y &&& BitVec.ofInt 64 4294967295).toNat : Int))).fdiv 4294967296)).fdiv 4294967296) +
 (IntKind.u64.wrap (IntKind.u64.wrap (↑(BitVec.ofInt 64 (IntKind.u64.wrap (IntKind.u64.wrap (x.fdiv 4294967296 * IntKind.u64.wrap (↑(BitVec.ofInt 64 y &&& BitVec.ofInt 64 4294967295).toNat : Int)) + (IntKind.u64.wrap (IntKind.u64.wrap (↑(BitVec.ofInt 64 x &&& BitVec.ofInt 64 4294967295).toNat : Int) * IntKind.u64.wrap (↑(BitVec.ofInt 64 y &&& BitVec.ofInt 64 4294967295).toNat : Int))).fdiv 4294967296)) &&& BitVec.ofInt 64 4294967295).toNat : Int) + IntKind.u64.wrap (IntKind.u64.wrap (↑(BitVec.ofInt 64 x &&& BitVec.ofInt 64 4294967295).toNat : Int) * y.fdiv 4294967296))).fdiv 4294967296)),
 Value.int IntKind.u64 (IntKind.u64.wrap (x * y))] })
 m n) := by kernel_rfl

/- 94 cmp.isNaN[leafmesh/api.IP] -/
theorem xCmpisNaNapiIP (m : Mem) (n : Nat) (Q : Value → Mem → Nat → Prop) (x : Int) :
 Xc Try.prog xcfg 400 fCmpisNaNapiIP [Value.int IntKind.u32 x] m n Q =
 (Q (Value.bool (x != x)) m n) := by kernel_rfl

/- 112 (leafmesh/spf.queue).Less -/
theorem xSpfqueueLess (m : Mem) (n : Nat) (Q : Value → Mem → Nat → Prop) (q_a : Option Addr) (q_l : Nat) (q_c : Nat) (i : Int) (k : Int) :
 Xc Try.prog xcfg 400 fSpfqueueLess [Value.slice q_a q_l q_c, Value.int IntKind.i64 i, Value.int IntKind.i64 k] m n Q =
 (elimA q_a False fun (k0 k1 : Nat) (p2 : Option Nat) => (0 ≤ i ∧ i < (↑q_l : Int) ∧ liveAt m k0 = true ∧ (p2 ≠ none → 0 < q_c)) ∧ isC m k0 = true ∧ ∃ (x3 : Int), rd m k0 (offOf k1 p2 + i.toNat * 2 + 1) = some (Value.int IntKind.i64 x3) ∧ elimA q_a False fun (k4 k5 : Nat) (p6 : Option Nat) => (0 ≤ k ∧ k < (↑q_l : Int) ∧ liveAt m k4 = true ∧ (p6 ≠ none → 0 < q_c)) ∧ isC m k4 = true ∧ ∃ (x7 : Int), rd m k4 (offOf k5 p6 + k.toNat * 2 + 1) = some (Value.int IntKind.i64 x7) ∧ Q (Value.bool (decide (x3 < x7))) m (n + 12)) := by kernel_rfl

/- 113 (*leafmesh/spf.queue).Pop -/
theorem xSpfqueuePop (m : Mem) (n : Nat) (Q : Value → Mem → Nat → Prop) (q : Nat) :
 Xc Try.prog xcfg 400 fSpfqueuePop [Value.pointer (some { block := q, off := 0 })] m n Q =
 (∃ (p0 : Option Addr),
 ∃ (k1 : Nat),
 ∃ (k2 : Nat),
 rd m q 0 = some (Value.slice p0 k1 k2) ∧
 ∃ (p3 : Option Addr),
 ∃ (k4 : Nat),
 ∃ (k5 : Nat),
 rd m q 0 = some (Value.slice p3 k4 k5) ∧
 elimA p3 False fun (k6 k7 : Nat) (p8 : Option Nat) =>
 (0 ≤ IntKind.i64.wrap ((↑k1 : Int) - 1) ∧ IntKind.i64.wrap ((↑k1 : Int) - 1) < (↑k4 : Int) ∧ liveAt m k6 = true ∧ (p8 ≠ none → 0 < k5)) ∧
 ∃ (x9 : Int),
 ∃ (x10 : Int),
 rds m k6 (offOf k7 p8 + (IntKind.i64.wrap ((↑k1 : Int) - 1)).toNat * 2) 2 = some [Value.int IntKind.i64 x9, Value.int IntKind.i64 x10] ∧
 memLet (Tr.set m n (AObj.cells none tSpffar 2 [Value.int IntKind.i64 0, Value.int IntKind.i64 0])) fun (m11 : Mem) =>
 ∃ (m12 : Mem),
 storeCs m11 n 0 [Value.int IntKind.i64 x9, Value.int IntKind.i64 x10] = some m12 ∧
 ∃ (p13 : Option Addr),
 ∃ (k14 : Nat),
 ∃ (k15 : Nat),
 rd m12 q 0 = some (Value.slice p13 k14 k15) ∧
 elimA p13 ((0 ≤ IntKind.i64.wrap ((↑k1 : Int) - 1) ∧ IntKind.i64.wrap ((↑k1 : Int) - 1) ≤ (↑k15 : Int)) ∧ ∃ (m16 : Mem), storeCs m12 q 0 [Value.slice none ((IntKind.i64.wrap ((↑k1 : Int) - 1)).toNat - 0) (k15 - 0)] = some m16 ∧ ∃ (x17 : Int), ∃ (x18 : Int), rds m16 n 0 2 = some [Value.int IntKind.i64 x17, Value.int IntKind.i64 x18] ∧ Q (Value.iface tSpffar (Value.agg { toList := [Value.int IntKind.i64 x17, Value.int IntKind.i64 x18] })) m16 (n + 1)) fun (k19 k20 : Nat) (p21 : Option Nat) =>
 (0 ≤ IntKind.i64.wrap ((↑k1 : Int) - 1) ∧ IntKind.i64.wrap ((↑k1 : Int) - 1) ≤ (↑k15 : Int)) ∧
 elimM p21 (∃ (m22 : Mem), storeCs m12 q 0 [Value.slice (some { block := k19, off := if k15 = 0 then k20 else k20 + 0 }) ((IntKind.i64.wrap ((↑k1 : Int) - 1)).toNat - 0) (k15 - 0)] = some m22 ∧ ∃ (x23 : Int), ∃ (x24 : Int), rds m22 n 0 2 = some [Value.int IntKind.i64 x23, Value.int IntKind.i64 x24] ∧ Q (Value.iface tSpffar (Value.agg { toList := [Value.int IntKind.i64 x23, Value.int IntKind.i64 x24] })) m22 (n + 1)) fun (k25 : Nat) =>
 (0 ≤ k15 ∧ 0 < k15) ∧ ∃ (m26 : Mem), storeCs m12 q 0 [Value.slice (some { block := k19, off := if k15 = 0 then k25 else k25 + 0, spot := some (k25 + 0) }) ((IntKind.i64.wrap ((↑k1 : Int) - 1)).toNat - 0) (k15 - 0)] = some m26 ∧ ∃ (x27 : Int), ∃ (x28 : Int), rds m26 n 0 2 = some [Value.int IntKind.i64 x27, Value.int IntKind.i64 x28] ∧ Q (Value.iface tSpffar (Value.agg { toList := [Value.int IntKind.i64 x27, Value.int IntKind.i64 x28] })) m26 (n + 1)) := by kernel_rfl

/- 114 (*leafmesh/spf.queue).Push -/
theorem xSpfqueuePush (m : Mem) (n : Nat) (Q : Value → Mem → Nat → Prop) (q : Nat) (x0 : Int) (x1 : Int) :
 Xc Try.prog xcfg 400 fSpfqueuePush [Value.pointer (some { block := q, off := 0 }), Value.iface tSpffar (Value.agg { toList := [Value.int IntKind.i64 x0, Value.int IntKind.i64 x1] })] m n Q =
 (∃ (p0 : Option Addr), ∃ (k1 : Nat), ∃ (k2 : Nat), rd m q 0 = some (Value.slice p0 k1 k2) ∧ 102 = 102 ∧ ∃ (x3 : Int), ∃ (x4 : Int), Value.agg { toList := [Value.int IntKind.i64 x0, Value.int IntKind.i64 x1] } = Value.agg { toList := [Value.int IntKind.i64 x3, Value.int IntKind.i64 x4] } ∧ memLet (Tr.set m (n + 6) (AObj.cells none tSpffar 2 [Value.int IntKind.i64 x3, Value.int IntKind.i64 x4])) fun (m5 : Mem) => ∃ (p6 : Option Addr), ∃ (k7 : Nat), ∃ (k8 : Nat), ∃ (m9 : Mem), ∃ (k10 : Nat), appendA Try.prog m5 (n + 10) tSpfqueue tSpfqueue (Value.slice p0 k1 k2) (Value.slice (some { block := n + 6, off := 0 }) 1 1) = Eff.val (Value.slice p6 k7 k8) m9 k10 ∧ ∃ (m11 : Mem), storeCs m9 q 0 [Value.slice p6 k7 k8] = some m11 ∧ n + 10 ≤ k10 ∧ n + 10 ≤ k10 ∧ Q (Value.tuple { toList := [] }) m11 k10) := by kernel_rfl

/- 115 (leafmesh/spf.queue).Swap -/
theorem xSpfqueueSwap (m : Mem) (n : Nat) (Q : Value → Mem → Nat → Prop) (q_a : Option Addr) (q_l : Nat) (q_c : Nat) (i : Int) (k : Int) :
 Xc Try.prog xcfg 400 fSpfqueueSwap [Value.slice q_a q_l q_c, Value.int IntKind.i64 i, Value.int IntKind.i64 k] m n Q =
 (elimA q_a False fun (k0 k1 : Nat) (p2 : Option Nat) =>
 (0 ≤ k ∧ k < (↑q_l : Int) ∧ liveAt m k0 = true ∧ (p2 ≠ none → 0 < q_c)) ∧
 ∃ (x3 : Int),
 ∃ (x4 : Int),
 rds m k0 (offOf k1 p2 + k.toNat * 2) 2 = some [Value.int IntKind.i64 x3, Value.int IntKind.i64 x4] ∧
 elimA q_a False fun (k5 k6 : Nat) (p7 : Option Nat) => (0 ≤ i ∧ i < (↑q_l : Int) ∧ liveAt m k5 = true ∧ (p7 ≠ none → 0 < q_c)) ∧ ∃ (x8 : Int), ∃ (x9 : Int), rds m k5 (offOf k6 p7 + i.toNat * 2) 2 = some [Value.int IntKind.i64 x8, Value.int IntKind.i64 x9] ∧ elimA q_a False fun (k10 k11 : Nat) (p12 : Option Nat) => (0 ≤ i ∧ i < (↑q_l : Int) ∧ liveAt m k10 = true ∧ (p12 ≠ none → 0 < q_c)) ∧ ∃ (m13 : Mem), storeCs m k10 (offOf k11 p12 + i.toNat * 2) [Value.int IntKind.i64 x3, Value.int IntKind.i64 x4] = some m13 ∧ elimA q_a False fun (k14 k15 : Nat) (p16 : Option Nat) => (0 ≤ k ∧ k < (↑q_l : Int) ∧ liveAt m13 k14 = true ∧ (p16 ≠ none → 0 < q_c)) ∧ ∃ (m17 : Mem), storeCs m13 k14 (offOf k15 p16 + k.toNat * 2) [Value.int IntKind.i64 x8, Value.int IntKind.i64 x9] = some m17 ∧ n + 16 ≤ n + 16 ∧ n + 16 ≤ n + 16 ∧ Q (Value.tuple { toList := [] }) m17 (n + 16)) := by kernel_rfl


end Go.Proofs.Ytiomjekkmjinbaa
