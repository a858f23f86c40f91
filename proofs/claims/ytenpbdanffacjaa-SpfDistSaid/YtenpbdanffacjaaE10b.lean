/- E10b: what parts of the program compute; helper of the claim. -/
import Derived.Test.YtenpbdanffacjaaE10
namespace Go.Proofs.Ytenpbdanffacjaa
open Go Go.Ab
set_option maxRecDepth 100000
/- 40 container/heap.Pop -/
theorem xContainerheapPop (m : Mem) (n : Nat) (Q : Value → Mem → Nat → Prop) (h : Nat) :
 Xc Try.prog xcfg 400 fContainerheapPop [Value.iface tPspfqueue (Value.pointer (some { block := h, off := 0 }))] m n Q =
 (∃ (p0 : Option Addr),
 ∃ (k1 : Nat),
 ∃ (k2 : Nat),
 rd m h 0 = some (Value.slice p0 k1 k2) ∧
 Wc Try.prog fSpfqueueLen [Value.slice p0 k1 k2] m n fun (v3 : Value) (m4 : Mem) (k5 : Nat) =>
 ∃ (x6 : Int),
 v3 = Value.int IntKind.i64 x6 ∧
 Later
 (∃ (p7 : Option Addr),
 ∃ (k8 : Nat),
 ∃ (k9 : Nat),
 rd m4 h 0 = some (Value.slice p7 k8 k9) ∧
 Wc Try.prog fSpfqueueSwap [Value.slice p7 k8 k9, Value.int IntKind.i64 0, Value.int IntKind.i64 (IntKind.i64.wrap (x6 - 1))] m4 k5 fun (v10 : Value) (m11 : Mem) (k12 : Nat) =>
 v10 = Value.tuple { toList := [] } ∧ Later (Wc Try.prog fContainerheapdown [Value.iface tPspfqueue (Value.pointer (some { block := h, off := 0 })), Value.int IntKind.i64 0, Value.int IntKind.i64 (IntKind.i64.wrap (x6 - 1))] m11 k12 fun (v13 : Value) (m14 : Mem) (k15 : Nat) => ∃ (b16 : Bool), v13 = Value.bool b16 ∧ Later (Wc Try.prog fSpfqueuePop [Value.pointer (some { block := h, off := 0 })] m14 k15 fun (v17 : Value) (m18 : Mem) (k19 : Nat) => ∃ (x20 : Int), ∃ (x21 : Int), v17 = Value.iface tSpffar (Value.agg { toList := [Value.int IntKind.i64 x20, Value.int IntKind.i64 x21] }) ∧ Later (Q (Value.iface tSpffar (Value.agg { toList := [Value.int IntKind.i64 x20, Value.int IntKind.i64 x21] })) m18 k19))))) := by kernel_rfl

/- 41 leafmesh/spf.filter[leafmesh/api.Link] -/
theorem xSpffilterapiLink (m : Mem) (n : Nat) (Q : Value → Mem → Nat → Prop) (l_a : Option Addr) (l_l : Nat) (l_c : Nat) (flags_a : Option Addr) (flags_l : Nat) (flags_c : Nat) :
 Xc Try.prog xcfg 400 fSpffilterapiLink [Value.slice l_a l_l l_c, Value.slice flags_a flags_l flags_c] m n Q =
 (memLet (Tr.set m n (AObj.cells none tLapiLink 1 [Value.slice l_a l_l l_c])) fun (m0 : Mem) => memLet (Tr.set m0 (n + 1) (AObj.cells none tLbool 1 [Value.slice flags_a flags_l flags_c])) fun (m1 : Mem) => Q (Value.func (Fn.func fSpffilterapiLink1) { toList := [] } { toList := [Value.pointer (some { block := n, off := 0 }), Value.pointer (some { block := n + 1, off := 0 })] }) m1 (n + 1 + 1)) := by kernel_rfl

/- 42 leafmesh/spf.other -/
theorem xSpfother (m : Mem) (n : Nat) (Q : Value → Mem → Nat → Prop) (x0 : Int) (x1 : Int) (x2 : Int) (n' : Int) :
 Xc Try.prog xcfg 400 fSpfother [Value.agg { toList := [Value.int IntKind.i64 x0, Value.int IntKind.i64 x1, Value.int IntKind.i64 x2] }, Value.int IntKind.i64 n'] m n Q =
 (memLet (Tr.set m n (AObj.cells none tApiLink 3 [Value.int IntKind.i64 x0, Value.int IntKind.i64 x1, Value.int IntKind.i64 x2])) fun (m0 : Mem) => isC m0 n = true ∧ ∃ (x1 : Int), rd m0 n 0 = some (Value.int IntKind.i64 x1) ∧ bif n' == x1 then isC m0 n = true ∧ ∃ (x2 : Int), rd m0 n 1 = some (Value.int IntKind.i64 x2) ∧ Q (Value.int IntKind.i64 x2) m0 (n + 1) else isC m0 n = true ∧ ∃ (x3 : Int), rd m0 n 1 = some (Value.int IntKind.i64 x3) ∧ bif n' == x3 then isC m0 n = true ∧ ∃ (x4 : Int), rd m0 n 0 = some (Value.int IntKind.i64 x4) ∧ Q (Value.int IntKind.i64 x4) m0 (n + 1) else Q (Value.int IntKind.i64 (-1)) m0 (n + 1)) := by kernel_rfl

/- 43 container/heap.Push -/
theorem xContainerheapPush (m : Mem) (n : Nat) (Q : Value → Mem → Nat → Prop) (h : Nat) (x0 : Int) (x1 : Int) :
 Xc Try.prog xcfg 400 fContainerheapPush [Value.iface tPspfqueue (Value.pointer (some { block := h, off := 0 })), Value.iface tSpffar (Value.agg { toList := [Value.int IntKind.i64 x0, Value.int IntKind.i64 x1] })] m n Q =
 (Wc Try.prog fSpfqueuePush [Value.pointer (some { block := h, off := 0 }), Value.iface tSpffar (Value.agg { toList := [Value.int IntKind.i64 x0, Value.int IntKind.i64 x1] })] m n fun (v0 : Value) (m1 : Mem) (k2 : Nat) => v0 = Value.tuple { toList := [] } ∧ Later (∃ (p3 : Option Addr), ∃ (k4 : Nat), ∃ (k5 : Nat), rd m1 h 0 = some (Value.slice p3 k4 k5) ∧ Wc Try.prog fSpfqueueLen [Value.slice p3 k4 k5] m1 k2 fun (v6 : Value) (m7 : Mem) (k8 : Nat) => ∃ (x9 : Int), v6 = Value.int IntKind.i64 x9 ∧ Later (Wc Try.prog fContainerheapup [Value.iface tPspfqueue (Value.pointer (some { block := h, off := 0 })), Value.int IntKind.i64 (IntKind.i64.wrap (x9 - 1))] m7 k8 fun (v10 : Value) (m11 : Mem) (k12 : Nat) => v10 = Value.tuple { toList := [] } ∧ Later (Q (Value.tuple { toList := [] }) m11 k12)))) := by kernel_rfl

/- 44 leafmesh/leafmeshref10.Valid -/
theorem xRef10Valid (m : Mem) (n : Nat) (Q : Value → Mem → Nat → Prop) (nodes : Int) (links_a : Option Addr) (links_l : Nat) (links_c : Nat) (up_a : Option Addr) (up_l : Nat) (up_c : Nat) (n' : Int) :
 Xc Try.prog xcfg 400 fRef10Valid [Value.int IntKind.i64 nodes, Value.slice links_a links_l links_c, Value.slice up_a up_l up_c, Value.int IntKind.i64 n'] m n Q =
 (Wc Try.prog fRef09Valid [Value.int IntKind.i64 nodes, Value.slice links_a links_l links_c] m n fun (v0 : Value) (m1 : Mem) (k2 : Nat) => ∃ (x3 : Int), v0 = Value.int IntKind.i64 x3 ∧ Later (bif x3 == 0 then bif (↑up_l : Int) == (↑links_l : Int) then bif decide (n' ≥ 0) then Q (Value.bool (decide (n' < nodes))) m1 k2 else Q (Value.bool false) m1 k2 else Q (Value.bool false) m1 k2 else Q (Value.bool false) m1 k2)) := by kernel_rfl

/- 45 slices.Reverse[[]int,int] -/
theorem xSlicesReverseLintint (m : Mem) (n : Nat) (Q : Value → Mem → Nat → Prop) (s_a : Option Addr) (s_l : Nat) (s_c : Nat) :
 Xc Try.prog xcfg 400 fSlicesReverseLintint [Value.slice s_a s_l s_c] m n Q =
 (W Try.prog { fn := fSlicesReverseLintint, nt := 28, slots := [(0, Value.slice s_a s_l s_c), (2, Value.int IntKind.i64 0), (3, Value.int IntKind.i64 (IntKind.i64.wrap ((↑s_l : Int) - 1)))], todo := pt Try.prog fSlicesReverseLintint [1, 0, 0] } m n Q) := by kernel_rfl

theorem xSlicesReverseLintintk0 (m : Mem) (n : Nat) (Q : Value → Mem → Nat → Prop) (s_a : Option Addr) (s_l : Nat) (s_c : Nat) (i : Int) (j : Int) :
 xF (evX Try.prog xcfg 400) { fn := fSlicesReverseLintint, nt := 28, slots := [(0, Value.slice s_a s_l s_c), (2, Value.int IntKind.i64 i), (3, Value.int IntKind.i64 j)], todo := pt Try.prog fSlicesReverseLintint [1, 0, 0] } m n Q =
 (bif decide (i < j) then
 elimA s_a False fun (k0 k1 : Nat) (p2 : Option Nat) =>
 (0 ≤ j ∧ j < (↑s_l : Int) ∧ liveAt m k0 = true ∧ (p2 ≠ none → 0 < s_c)) ∧
 ∃ (x3 : Int),
 rd m k0 (offOf k1 p2 + j.toNat * 1) = some (Value.int IntKind.i64 x3) ∧
 elimA s_a False fun (k4 k5 : Nat) (p6 : Option Nat) =>
 (0 ≤ i ∧ i < (↑s_l : Int) ∧ liveAt m k4 = true ∧ (p6 ≠ none → 0 < s_c)) ∧
 ∃ (x7 : Int), rd m k4 (offOf k5 p6 + i.toNat * 1) = some (Value.int IntKind.i64 x7) ∧ elimA s_a False fun (k8 k9 : Nat) (p10 : Option Nat) => (0 ≤ i ∧ i < (↑s_l : Int) ∧ liveAt m k8 = true ∧ (p10 ≠ none → 0 < s_c)) ∧ ∃ (m11 : Mem), storeCs m k8 (offOf k9 p10 + i.toNat * 1) [Value.int IntKind.i64 x3] = some m11 ∧ elimA s_a False fun (k12 k13 : Nat) (p14 : Option Nat) => (0 ≤ j ∧ j < (↑s_l : Int) ∧ liveAt m11 k12 = true ∧ (p14 ≠ none → 0 < s_c)) ∧ ∃ (m15 : Mem), storeCs m11 k12 (offOf k13 p14 + j.toNat * 1) [Value.int IntKind.i64 x7] = some m15 ∧ n + 16 ≤ n + 16 ∧ n + 16 ≤ n + 16 ∧ W Try.prog { fn := fSlicesReverseLintint, nt := 28, slots := [(0, Value.slice s_a s_l s_c), (2, Value.int IntKind.i64 (IntKind.i64.wrap (i + 1))), (3, Value.int IntKind.i64 (IntKind.i64.wrap (j - 1)))], todo := pt Try.prog fSlicesReverseLintint [1, 0, 0] } m15 (n + 16) Q
 else Q (Value.tuple { toList := [] }) m n) := by kernel_rfl

/- 46 leafmesh/leafmeshref10.Other -/
theorem xRef10Other (m : Mem) (n : Nat) (Q : Value → Mem → Nat → Prop) (x0 : Int) (x1 : Int) (x2 : Int) (n' : Int) :
 Xc Try.prog xcfg 400 fRef10Other [Value.agg { toList := [Value.int IntKind.i64 x0, Value.int IntKind.i64 x1, Value.int IntKind.i64 x2] }, Value.int IntKind.i64 n'] m n Q =
 (memLet (Tr.set m n (AObj.cells none tApiLink 3 [Value.int IntKind.i64 x0, Value.int IntKind.i64 x1, Value.int IntKind.i64 x2])) fun (m0 : Mem) => isC m0 n = true ∧ ∃ (x1 : Int), rd m0 n 0 = some (Value.int IntKind.i64 x1) ∧ bif n' == x1 then isC m0 n = true ∧ ∃ (x2 : Int), rd m0 n 1 = some (Value.int IntKind.i64 x2) ∧ Q (Value.tuple { toList := [Value.int IntKind.i64 x2, Value.bool true] }) m0 (n + 1) else isC m0 n = true ∧ ∃ (x3 : Int), rd m0 n 1 = some (Value.int IntKind.i64 x3) ∧ bif n' == x3 then isC m0 n = true ∧ ∃ (x4 : Int), rd m0 n 0 = some (Value.int IntKind.i64 x4) ∧ Q (Value.tuple { toList := [Value.int IntKind.i64 x4, Value.bool true] }) m0 (n + 1) else Q (Value.tuple { toList := [Value.int IntKind.i64 0, Value.bool false] }) m0 (n + 1)) := by kernel_rfl

/- 47 leafmesh/spf.Paths$1 -/
theorem xSpfPaths1 (m : Mem) (n : Nat) (Q : Value → Mem → Nat → Prop) (n' : Int) (t1 : Nat) (t2 : Nat) (t3 : Nat) (t4 : Nat) (t5 : Nat) (t6 : Nat) :
 Xc Try.prog xcfg 400 fSpfPaths1 [Value.int IntKind.i64 n', Value.pointer (some { block := t1, off := 0 }), Value.pointer (some { block := t2, off := 0 }), Value.pointer (some { block := t3, off := 0 }), Value.pointer (some { block := t4, off := 0 }), Value.pointer (some { block := t5, off := 0 }), Value.pointer (some { block := t6, off := 0 })] m n Q =
 (∃ (p0 : Option Nat),
 rd m t1 0 = some (Value.map p0) ∧
 ∃ (l1 : List (Value × Value)),
 mapOf m (Value.map p0) = some l1 ∧
 (l1.all fun (e : Value × Value) => Ab.keyOf IntKind.i64 e.fst) = true ∧
 elimE (List.find? (fun (e : Value × Value) => keyIs IntKind.i64 n' e.fst) l1)
 (∃ (x2 : Int),
 rd m t2 0 = some (Value.int IntKind.i64 x2) ∧
 ∃ (p3 : Option Addr),
 ∃ (k4 : Nat),
 ∃ (k5 : Nat),
 rd m t3 0 = some (Value.slice p3 k4 k5) ∧
 ∃ (p6 : Option Addr),
 ∃ (k7 : Nat), ∃ (k8 : Nat), rd m t4 0 = some (Value.slice p6 k7 k8) ∧ ∃ (x9 : Int), rd m t5 0 = some (Value.int IntKind.i64 x9) ∧ Wc Try.prog fSpfNext [Value.int IntKind.i64 x2, Value.slice p3 k4 k5, Value.slice p6 k7 k8, Value.int IntKind.i64 n', Value.int IntKind.i64 x9] m n fun (v10 : Value) (m11 : Mem) (k12 : Nat) => ∃ (p13 : Option Addr), ∃ (k14 : Nat), ∃ (k15 : Nat), v10 = Value.slice p13 k14 k15 ∧ Later (W Try.prog { fn := fSpfPaths1, nt := 49, slots := [(0, Value.int IntKind.i64 n'), (1, Value.pointer (some { block := t1, off := 0 })), (3, Value.pointer (some { block := t3, off := 0 })), (6, Value.pointer (some { block := t6, off := 0 })), (11, Value.int IntKind.i64 0), (27, Value.slice p13 k14 k15), (28, Value.int IntKind.i64 (↑k14 : Int)), (29, Value.int IntKind.i64 0)], todo := pt Try.prog fSpfPaths1 [1, 1, 1, 0, 1, 0, 0] } m11 k12 Q))
 fun (y16 : Value × Value) => ∃ (x17 : Int), y16.snd = Value.int IntKind.i64 x17 ∧ Q (Value.int IntKind.i64 x17) m n) := by kernel_rfl

theorem xSpfPaths1k0 (m : Mem) (n : Nat) (Q : Value → Mem → Nat → Prop) (n' : Int) (t1 : Nat) (t3 : Nat) (t6 : Nat) (many : Int) (t27_a : Option Addr) (t27_l : Nat) (t27_c : Nat) (t28 : Int) (t29 : Int) :
 xF (evX Try.prog xcfg 400) { fn := fSpfPaths1, nt := 49, slots := [(0, Value.int IntKind.i64 n'), (1, Value.pointer (some { block := t1, off := 0 })), (3, Value.pointer (some { block := t3, off := 0 })), (6, Value.pointer (some { block := t6, off := 0 })), (11, Value.int IntKind.i64 many), (27, Value.slice t27_a t27_l t27_c), (28, Value.int IntKind.i64 t28), (29, Value.int IntKind.i64 t29)], todo := pt Try.prog fSpfPaths1 [1, 1, 1, 0, 1, 0, 0] } m n Q =
 (bif decide (t29 < t28) then
 elimA t27_a False fun (k0 k1 : Nat) (p2 : Option Nat) =>
 (0 ≤ t29 ∧ t29 < (↑t27_l : Int) ∧ liveAt m k0 = true ∧ (p2 ≠ none → 0 < t27_c)) ∧
 ∃ (x3 : Int),
 rd m k0 (offOf k1 p2 + t29.toNat * 1) = some (Value.int IntKind.i64 x3) ∧
 ∃ (y4 : FuncId),
 ∃ (l5 : List Value),
 ∃ (l6 : List Value),
 rd m t6 0 = some (Value.func (Fn.func y4) { toList := l5 } { toList := l6 }) ∧
 ∃ (p7 : Option Addr),
 ∃ (k8 : Nat),
 ∃ (k9 : Nat),
 rd m t3 0 = some (Value.slice p7 k8 k9) ∧
 elimA p7 False fun (k10 k11 : Nat) (p12 : Option Nat) =>
 (0 ≤ x3 ∧ x3 < (↑k8 : Int) ∧ liveAt m k10 = true ∧ (p12 ≠ none → 0 < k9)) ∧
 ∃ (x13 : Int),
 ∃ (x14 : Int),
 ∃ (x15 : Int),
 rds m k10 (offOf k11 p12 + x3.toNat * 3) 3 = some [Value.int IntKind.i64 x13, Value.int IntKind.i64 x14, Value.int IntKind.i64 x15] ∧
 ∃ (x16 : Int),
 ∃ (m17 : Mem),
 ∃ (k18 : Nat),
 (Wc Try.prog fSpfother [Value.agg { toList := [Value.int IntKind.i64 x13, Value.int IntKind.i64 x14, Value.int IntKind.i64 x15] }, Value.int IntKind.i64 n'] m (n + 12) fun (v19 : Value) (m20 : Mem) (k21 : Nat) => v19 = Value.int IntKind.i64 x16 ∧ m20 = m17 ∧ k21 = k18) ∧
 Later
 (∃ (x22 : Int),
 ∃ (m23 : Mem),
 ∃ (k24 : Nat),
 (Wc Try.prog y4 (l5 ++ [Value.int IntKind.i64 x16] ++ l6) m17 k18 fun (v25 : Value) (m26 : Mem) (k27 : Nat) => v25 = Value.int IntKind.i64 x22 ∧ m26 = m23 ∧ k27 = k24) ∧
 Later
 ((∃ (y28 : FuncId), ∃ (l29 : List Value), ∃ (l30 : List Value), rd m17 t6 0 = some (Value.func (Fn.func y28) { toList := l29 } { toList := l30 }) ∧ Value.func (Fn.func y28) { toList := l29 } { toList := l30 } = Value.func (Fn.func y4) { toList := l5 } { toList := l6 }) ∧
 n + 12 ≤ k18 ∧ n + 12 ≤ k24 ∧ W Try.prog { fn := fSpfPaths1, nt := 49, slots := [(0, Value.int IntKind.i64 n'), (1, Value.pointer (some { block := t1, off := 0 })), (3, Value.pointer (some { block := t3, off := 0 })), (6, Value.pointer (some { block := t6, off := 0 })), (11, Value.int IntKind.i64 (if IntKind.i64.wrap (many + x22) < 1073741824 then IntKind.i64.wrap (many + x22) else 1073741824)), (27, Value.slice t27_a t27_l t27_c), (28, Value.int IntKind.i64 t28), (29, Value.int IntKind.i64 (IntKind.i64.wrap (t29 + 1)))], todo := pt Try.prog fSpfPaths1 [1, 1, 1, 0, 1, 0, 0] } m23 k24 Q))
 else ∃ (p31 : Option Nat), rd m t1 0 = some (Value.map p31) ∧ elimM p31 False fun (k32 : Nat) => ∃ (l33 : List (Value × Value)), ∃ (k34 : Nat), Tr.get m k32 = some (AObj.map l33 k34) ∧ (l33.all fun (e : Value × Value) => Ab.keyOf IntKind.i64 e.fst) = true ∧ bif l33.any fun (e : Value × Value) => keyIs IntKind.i64 n' e.fst then memLet (Tr.set m k32 (AObj.map (setKey l33 IntKind.i64 n' (Value.int IntKind.i64 many)) k34)) fun (m35 : Mem) => Q (Value.int IntKind.i64 many) m35 n else memLet (Tr.set m k32 (AObj.map (l33 ++ [(Value.int IntKind.i64 n', Value.int IntKind.i64 many)]) (k34 + 1))) fun (m36 : Mem) => Q (Value.int IntKind.i64 many) m36 n) := by kernel_rfl

/- 48 leafmesh/leafmeshkit.Has[int] -/
theorem xKitHasint (m : Mem) (n : Nat) (Q : Value → Mem → Nat → Prop) (l_a : Option Addr) (l_l : Nat) (l_c : Nat) (x : Int) :
 Xc Try.prog xcfg 400 fKitHasint [Value.slice l_a l_l l_c, Value.int IntKind.i64 x] m n Q =
 (W Try.prog { fn := fKitHasint, nt := 18, slots := [(0, Value.slice l_a l_l l_c), (1, Value.int IntKind.i64 x), (5, Value.int IntKind.i64 0)], todo := pt Try.prog fKitHasint [1, 0, 1, 0, 0] } m n Q) := by kernel_rfl

theorem xKitHasintk0 (m : Mem) (n : Nat) (Q : Value → Mem → Nat → Prop) (l_a : Option Addr) (l_l : Nat) (l_c : Nat) (x : Int) (i : Int) :
 xF (evX Try.prog xcfg 400) { fn := fKitHasint, nt := 18, slots := [(0, Value.slice l_a l_l l_c), (1, Value.int IntKind.i64 x), (5, Value.int IntKind.i64 i)], todo := pt Try.prog fKitHasint [1, 0, 1, 0, 0] } m n Q =
 (bif decide (i < (↑l_l : Int)) then elimA l_a False fun (k0 k1 : Nat) (p2 : Option Nat) => (0 ≤ i ∧ i < (↑l_l : Int) ∧ liveAt m k0 = true ∧ (p2 ≠ none → 0 < l_c)) ∧ ∃ (x3 : Int), rd m k0 (offOf k1 p2 + i.toNat * 1) = some (Value.int IntKind.i64 x3) ∧ bif x3 == x then Q (Value.bool true) m n else W Try.prog { fn := fKitHasint, nt := 18, slots := [(0, Value.slice l_a l_l l_c), (1, Value.int IntKind.i64 x), (5, Value.int IntKind.i64 (IntKind.i64.wrap (i + 1)))], todo := pt Try.prog fKitHasint [1, 0, 1, 0, 0] } m n Q else Q (Value.bool false) m n) := by kernel_rfl

/- 49 leafmesh/spf.valid$1 -/
theorem xSpfvalid1 (m : Mem) (n : Nat) (Q : Value → Mem → Nat → Prop) (n' : Int) (t1 : Nat) :
 Xc Try.prog xcfg 400 fSpfvalid1 [Value.int IntKind.i64 n', Value.pointer (some { block := t1, off := 0 })] m n Q =
 (bif decide (n' ≥ 0) then ∃ (x0 : Int), rd m t1 0 = some (Value.int IntKind.i64 x0) ∧ Q (Value.bool (decide (n' < x0))) m n else Q (Value.bool false) m n) := by kernel_rfl

/- 50 slices.ContainsFunc[[]int,int] -/
theorem xSlicesContainsFuncLintint (m : Mem) (n : Nat) (Q : Value → Mem → Nat → Prop) (s_a : Option Addr) (s_l : Nat) (s_c : Nat) (f_g : Nat) (f_f : List Value) (f_k : List Value) :
 Xc Try.prog xcfg 400 fSlicesContainsFuncLintint [Value.slice s_a s_l s_c, Value.func (Fn.func f_g) { toList := f_f } { toList := f_k }] m n Q =
 (Wc Try.prog fSlicesIndexFuncLintint [Value.slice s_a s_l s_c, Value.func (Fn.func f_g) { toList := f_f } { toList := f_k }] m n fun (v0 : Value) (m1 : Mem) (k2 : Nat) => ∃ (x3 : Int), v0 = Value.int IntKind.i64 x3 ∧ Later (Q (Value.bool (decide (x3 ≥ 0))) m1 k2)) := by kernel_rfl

/- 51 leafmesh/spf.valid$2 -/
theorem xSpfvalid2 (m : Mem) (n : Nat) (Q : Value → Mem → Nat → Prop) (n' : Int) (t1 : Nat) :
 Xc Try.prog xcfg 400 fSpfvalid2 [Value.int IntKind.i64 n', Value.pointer (some { block := t1, off := 0 })] m n Q =
 (∃ (y0 : FuncId), ∃ (l1 : List Value), ∃ (l2 : List Value), rd m t1 0 = some (Value.func (Fn.func y0) { toList := l1 } { toList := l2 }) ∧ Wc Try.prog y0 (l1 ++ [Value.int IntKind.i64 n'] ++ l2) m n fun (v3 : Value) (m4 : Mem) (k5 : Nat) => ∃ (b6 : Bool), v3 = Value.bool b6 ∧ Later (Q (Value.bool !b6) m4 k5)) := by kernel_rfl

/- 52 math/bits.Mul -/
theorem xMathbitsMul (m : Mem) (n : Nat) (Q : Value → Mem → Nat → Prop) (x : Int) (y : Int) :
 Xc Try.prog xcfg 400 fMathbitsMul [Value.int IntKind.u64 x, Value.int IntKind.u64 y] m n Q =
 (Wc Try.prog fMathbitsMul64 [Value.int IntKind.u64 x, Value.int IntKind.u64 y] m n fun (v0 : Value) (m1 : Mem) (k2 : Nat) => ∃ (x3 : Int), ∃ (x4 : Int), v0 = Value.tuple { toList := [Value.int IntKind.u64 x3, Value.int IntKind.u64 x4] } ∧ Later (Q (Value.tuple { toList := [Value.int IntKind.u64 x3, Value.int IntKind.u64 x4] }) m1 k2)) := by kernel_rfl

/- 53 container/heap.down -/
theorem xContainerheapdown (m : Mem) (n : Nat) (Q : Value → Mem → Nat → Prop) (h : Nat) (i0 : Int) (n' : Int) :
 Xc Try.prog xcfg 400 fContainerheapdown [Value.iface tPspfqueue (Value.pointer (some { block := h, off := 0 })), Value.int IntKind.i64 i0, Value.int IntKind.i64 n'] m n Q =
 (W Try.prog { fn := fContainerheapdown, nt := 48, slots := [(0, Value.iface tPspfqueue (Value.pointer (some { block := h, off := 0 }))), (1, Value.int IntKind.i64 i0), (2, Value.int IntKind.i64 n'), (7, Value.int IntKind.i64 i0)], todo := pt Try.prog fContainerheapdown [1, 1, 0, 0, 0] } m n Q) := by kernel_rfl

theorem xContainerheapdownk0 (m : Mem) (n : Nat) (Q : Value → Mem → Nat → Prop) (h : Nat) (i0 : Int) (n' : Int) (i : Int) :
 xF (evX Try.prog xcfg 400) { fn := fContainerheapdown, nt := 48, slots := [(0, Value.iface tPspfqueue (Value.pointer (some { block := h, off := 0 }))), (1, Value.int IntKind.i64 i0), (2, Value.int IntKind.i64 n'), (7, Value.int IntKind.i64 i)], todo := pt Try.prog fContainerheapdown [1, 1, 0, 0, 0] } m n Q =
 (bif decide (IntKind.i64.wrap (IntKind.i64.wrap (2 * i) + 1) ≥ n') then Q (Value.bool (decide (i > i0))) m n
 else
 bif decide (IntKind.i64.wrap (IntKind.i64.wrap (2 * i) + 1) < 0) then Q (Value.bool (decide (i > i0))) m n
 else
 bif decide (IntKind.i64.wrap (IntKind.i64.wrap (IntKind.i64.wrap (2 * i) + 1) + 1) < n') then
 ∃ (p0 : Option Addr),
 ∃ (k1 : Nat),
 ∃ (k2 : Nat),
 rd m h 0 = some (Value.slice p0 k1 k2) ∧
 Wc Try.prog fSpfqueueLess [Value.slice p0 k1 k2, Value.int IntKind.i64 (IntKind.i64.wrap (IntKind.i64.wrap (IntKind.i64.wrap (2 * i) + 1) + 1)), Value.int IntKind.i64 (IntKind.i64.wrap (IntKind.i64.wrap (2 * i) + 1))] m n fun (v3 : Value) (m4 : Mem) (k5 : Nat) =>
 ∃ (b6 : Bool),
 v3 = Value.bool b6 ∧
 Later
 (bif b6 then
 ∃ (p7 : Option Addr),
 ∃ (k8 : Nat),
 ∃ (k9 : Nat),
 rd m4 h 0 = some (Value.slice p7 k8 k9) ∧
 Wc Try.prog fSpfqueueLess [Value.slice p7 k8 k9, Value.int IntKind.i64 (IntKind.i64.wrap (IntKind.i64.wrap (IntKind.i64.wrap (2 * i) + 1) + 1)), Value.int IntKind.i64 i] m4 k5 fun (v10 : Value) (m11 : Mem) (k12 : Nat) =>
 ∃ (b13 : Bool), v10 = Value.bool b13 ∧ Later (bif !b13 then Q (Value.bool (decide (i > i0))) m11 k12 else ∃ (p14 : Option Addr), ∃ (k15 : Nat), ∃ (k16 : Nat), rd m11 h 0 = some (Value.slice p14 k15 k16) ∧ Wc Try.prog fSpfqueueSwap [Value.slice p14 k15 k16, Value.int IntKind.i64 i, Value.int IntKind.i64 (IntKind.i64.wrap (IntKind.i64.wrap (IntKind.i64.wrap (2 * i) + 1) + 1))] m11 k12 fun (v17 : Value) (m18 : Mem) (k19 : Nat) => v17 = Value.tuple { toList := [] } ∧ Later (W Try.prog { fn := fContainerheapdown, nt := 48, slots := [(0, Value.iface tPspfqueue (Value.pointer (some { block := h, off := 0 }))), (1, Value.int IntKind.i64 i0), (2, Value.int IntKind.i64 n'), (7, Value.int IntKind.i64 (IntKind.i64.wrap (IntKind.i64.wrap (IntKind.i64.wrap (2 * i) + 1) + 1)))], todo := pt Try.prog fContainerheapdown [1, 1, 0, 0, 0] } m18 k19 Q))
 else
 ∃ (p20 : Option Addr),
 ∃ (k21 : Nat),
 ∃ (k22 : Nat),
 rd m4 h 0 = some (Value.slice p20 k21 k22) ∧
 Wc Try.prog fSpfqueueLess [Value.slice p20 k21 k22, Value.int IntKind.i64 (IntKind.i64.wrap (IntKind.i64.wrap (2 * i) + 1)), Value.int IntKind.i64 i] m4 k5 fun (v23 : Value) (m24 : Mem) (k25 : Nat) =>
 ∃ (b26 : Bool), v23 = Value.bool b26 ∧ Later (bif !b26 then Q (Value.bool (decide (i > i0))) m24 k25 else ∃ (p27 : Option Addr), ∃ (k28 : Nat), ∃ (k29 : Nat), rd m24 h 0 = some (Value.slice p27 k28 k29) ∧ Wc Try.prog fSpfqueueSwap [Value.slice p27 k28 k29, Value.int IntKind.i64 i, Value.int IntKind.i64 (IntKind.i64.wrap (IntKind.i64.wrap (2 * i) + 1))] m24 k25 fun (v30 : Value) (m31 : Mem) (k32 : Nat) => v30 = Value.tuple { toList := [] } ∧ Later (W Try.prog { fn := fContainerheapdown, nt := 48, slots := [(0, Value.iface tPspfqueue (Value.pointer (some { block := h, off := 0 }))), (1, Value.int IntKind.i64 i0), (2, Value.int IntKind.i64 n'), (7, Value.int IntKind.i64 (IntKind.i64.wrap (IntKind.i64.wrap (2 * i) + 1)))], todo := pt Try.prog fContainerheapdown [1, 1, 0, 0, 0] } m31 k32 Q)))
 else
 ∃ (p33 : Option Addr),
 ∃ (k34 : Nat),
 ∃ (k35 : Nat),
 rd m h 0 = some (Value.slice p33 k34 k35) ∧
 Wc Try.prog fSpfqueueLess [Value.slice p33 k34 k35, Value.int IntKind.i64 (IntKind.i64.wrap (IntKind.i64.wrap (2 * i) + 1)), Value.int IntKind.i64 i] m n fun (v36 : Value) (m37 : Mem) (k38 : Nat) =>
 ∃ (b39 : Bool), v36 = Value.bool b39 ∧ Later (bif !b39 then Q (Value.bool (decide (i > i0))) m37 k38 else ∃ (p40 : Option Addr), ∃ (k41 : Nat), ∃ (k42 : Nat), rd m37 h 0 = some (Value.slice p40 k41 k42) ∧ Wc Try.prog fSpfqueueSwap [Value.slice p40 k41 k42, Value.int IntKind.i64 i, Value.int IntKind.i64 (IntKind.i64.wrap (IntKind.i64.wrap (2 * i) + 1))] m37 k38 fun (v43 : Value) (m44 : Mem) (k45 : Nat) => v43 = Value.tuple { toList := [] } ∧ Later (W Try.prog { fn := fContainerheapdown, nt := 48, slots := [(0, Value.iface tPspfqueue (Value.pointer (some { block := h, off := 0 }))), (1, Value.int IntKind.i64 i0), (2, Value.int IntKind.i64 n'), (7, Value.int IntKind.i64 (IntKind.i64.wrap (IntKind.i64.wrap (2 * i) + 1)))], todo := pt Try.prog fContainerheapdown [1, 1, 0, 0, 0] } m44 k45 Q))) := by kernel_rfl

/- 54 leafmesh/spf.filter[leafmesh/api.Link]$1 -/
theorem xSpffilterapiLink1 (m : Mem) (n : Nat) (Q : Value → Mem → Nat → Prop) (yieldY : Nat) (t1 : Nat) (t2 : Nat) :
 Xc Try.prog xcfg 400 fSpffilterapiLink1 [Value.func (Fn.yield yieldY) { toList := [] } { toList := [] }, Value.pointer (some { block := t1, off := 0 }), Value.pointer (some { block := t2, off := 0 })] m n Q =
 (∃ (p0 : Option Addr), ∃ (k1 : Nat), ∃ (k2 : Nat), rd m t1 0 = some (Value.slice p0 k1 k2) ∧ W Try.prog { fn := fSpffilterapiLink1, nt := 25, slots := [(0, Value.func (Fn.yield yieldY) { toList := [] } { toList := [] }), (2, Value.pointer (some { block := t2, off := 0 })), (6, Value.slice p0 k1 k2), (7, Value.int IntKind.i64 (↑k1 : Int)), (8, Value.int IntKind.i64 0)], todo := pt Try.prog fSpffilterapiLink1 [1, 0, 0] } m n Q) := by kernel_rfl

theorem xSpffilterapiLink1k0 (m : Mem) (n : Nat) (Q : Value → Mem → Nat → Prop) (yieldY : Nat) (t2 : Nat) (t6_a : Option Addr) (t6_l : Nat) (t6_c : Nat) (t7 : Int) (t8 : Int) :
 xF (evX Try.prog xcfg 400) { fn := fSpffilterapiLink1, nt := 25, slots := [(0, Value.func (Fn.yield yieldY) { toList := [] } { toList := [] }), (2, Value.pointer (some { block := t2, off := 0 })), (6, Value.slice t6_a t6_l t6_c), (7, Value.int IntKind.i64 t7), (8, Value.int IntKind.i64 t8)], todo := pt Try.prog fSpffilterapiLink1 [1, 0, 0] } m n Q =
 (bif decide (t8 < t7) then
 elimA t6_a False fun (k0 k1 : Nat) (p2 : Option Nat) =>
 (0 ≤ t8 ∧ t8 < (↑t6_l : Int) ∧ liveAt m k0 = true ∧ (p2 ≠ none → 0 < t6_c)) ∧
 ∃ (x3 : Int),
 ∃ (x4 : Int),
 ∃ (x5 : Int),
 rds m k0 (offOf k1 p2 + t8.toNat * 3) 3 = some [Value.int IntKind.i64 x3, Value.int IntKind.i64 x4, Value.int IntKind.i64 x5] ∧
 memLet (Tr.set m n (AObj.cells none tApiLink 3 [Value.int IntKind.i64 0, Value.int IntKind.i64 0, Value.int IntKind.i64 0])) fun (m6 : Mem) =>
 ∃ (m7 : Mem),
 storeCs m6 n 0 [Value.int IntKind.i64 x3, Value.int IntKind.i64 x4, Value.int IntKind.i64 x5] = some m7 ∧
 ∃ (p8 : Option Addr),
 ∃ (k9 : Nat),
 ∃ (k10 : Nat),
 rd m7 t2 0 = some (Value.slice p8 k9 k10) ∧
 elimA p8 False fun (k11 k12 : Nat) (p13 : Option Nat) =>
 (0 ≤ t8 ∧ t8 < (↑k9 : Int) ∧ liveAt m7 k11 = true ∧ (p13 ≠ none → 0 < k10)) ∧
 ∃ (b14 : Bool),
 rd m7 k11 (offOf k12 p13 + t8.toNat * 1) = some (Value.bool b14) ∧
 bif b14 then
 ∃ (x15 : Int),
 ∃ (x16 : Int), ∃ (x17 : Int), rds m7 n 0 3 = some [Value.int IntKind.i64 x15, Value.int IntKind.i64 x16, Value.int IntKind.i64 x17] ∧ ∃ (y18 : AFrame), roundA m7 yieldY [Value.int IntKind.i64 t8, Value.agg { toList := [Value.int IntKind.i64 x15, Value.int IntKind.i64 x16, Value.int IntKind.i64 x17] }] = some y18 ∧ W Try.prog y18 m7 (n + 1) fun (v19 : Value) (m20 : Mem) (k21 : Nat) => ∃ (b22 : Bool), v19 = Value.bool b22 ∧ Later (bif !b22 then Q (Value.tuple { toList := [] }) m20 k21 else W Try.prog { fn := fSpffilterapiLink1, nt := 25, slots := [(0, Value.func (Fn.yield yieldY) { toList := [] } { toList := [] }), (2, Value.pointer (some { block := t2, off := 0 })), (6, Value.slice t6_a t6_l t6_c), (7, Value.int IntKind.i64 t7), (8, Value.int IntKind.i64 (IntKind.i64.wrap (t8 + 1)))], todo := pt Try.prog fSpffilterapiLink1 [1, 0, 0] } m20 k21 Q)
 else W Try.prog { fn := fSpffilterapiLink1, nt := 25, slots := [(0, Value.func (Fn.yield yieldY) { toList := [] } { toList := [] }), (2, Value.pointer (some { block := t2, off := 0 })), (6, Value.slice t6_a t6_l t6_c), (7, Value.int IntKind.i64 t7), (8, Value.int IntKind.i64 (IntKind.i64.wrap (t8 + 1)))], todo := pt Try.prog fSpffilterapiLink1 [1, 0, 0] } m7 (n + 1) Q
 else Q (Value.tuple { toList := [] }) m n) := by kernel_rfl

/- 55 container/heap.up -/
theorem xContainerheapup (m : Mem) (n : Nat) (Q : Value → Mem → Nat → Prop) (h : Nat) (j : Int) :
 Xc Try.prog xcfg 400 fContainerheapup [Value.iface tPspfqueue (Value.pointer (some { block := h, off := 0 })), Value.int IntKind.i64 j] m n Q =
 (W Try.prog { fn := fContainerheapup, nt := 23, slots := [(0, Value.iface tPspfqueue (Value.pointer (some { block := h, off := 0 }))), (1, Value.int IntKind.i64 j)], todo := pt Try.prog fContainerheapup [0, 0] } m n Q) := by kernel_rfl

theorem xContainerheapupk0 (m : Mem) (n : Nat) (Q : Value → Mem → Nat → Prop) (h : Nat) (j_1 : Int) :
 xF (evX Try.prog xcfg 400) { fn := fContainerheapup, nt := 23, slots := [(0, Value.iface tPspfqueue (Value.pointer (some { block := h, off := 0 }))), (1, Value.int IntKind.i64 j_1)], todo := pt Try.prog fContainerheapup [0, 0] } m n Q =
 ((2 : Int) ≠ 0 ∧
 bif IntKind.i64.wrap ((IntKind.i64.wrap (j_1 - 1)).tdiv 2) == j_1 then Q (Value.tuple { toList := [] }) m n
 else
 ∃ (p0 : Option Addr),
 ∃ (k1 : Nat),
 ∃ (k2 : Nat),
 rd m h 0 = some (Value.slice p0 k1 k2) ∧
 Wc Try.prog fSpfqueueLess [Value.slice p0 k1 k2, Value.int IntKind.i64 j_1, Value.int IntKind.i64 (IntKind.i64.wrap ((IntKind.i64.wrap (j_1 - 1)).tdiv 2))] m n fun (v3 : Value) (m4 : Mem) (k5 : Nat) =>
 ∃ (b6 : Bool), v3 = Value.bool b6 ∧ Later (bif !b6 then Q (Value.tuple { toList := [] }) m4 k5 else ∃ (p7 : Option Addr), ∃ (k8 : Nat), ∃ (k9 : Nat), rd m4 h 0 = some (Value.slice p7 k8 k9) ∧ Wc Try.prog fSpfqueueSwap [Value.slice p7 k8 k9, Value.int IntKind.i64 (IntKind.i64.wrap ((IntKind.i64.wrap (j_1 - 1)).tdiv 2)), Value.int IntKind.i64 j_1] m4 k5 fun (v10 : Value) (m11 : Mem) (k12 : Nat) => v10 = Value.tuple { toList := [] } ∧ Later (W Try.prog { fn := fContainerheapup, nt := 23, slots := [(0, Value.iface tPspfqueue (Value.pointer (some { block := h, off := 0 }))), (1, Value.int IntKind.i64 (IntKind.i64.wrap ((IntKind.i64.wrap (j_1 - 1)).tdiv 2)))], todo := pt Try.prog fContainerheapup [0, 0] } m11 k12 Q))) := by kernel_rfl

/- 56 leafmesh/leafmeshref09.Valid -/
theorem xRef09Valid (m : Mem) (n : Nat) (Q : Value → Mem → Nat → Prop) (nodes : Int) (links_a : Option Addr) (links_l : Nat) (links_c : Nat) :
 Xc Try.prog xcfg 400 fRef09Valid [Value.int IntKind.i64 nodes, Value.slice links_a links_l links_c] m n Q =
 (bif decide (nodes < 1) then Q (Value.int IntKind.i64 2) m n else bif decide (nodes > 32) then Q (Value.int IntKind.i64 2) m n else bif decide ((↑links_l : Int) > 128) then Q (Value.int IntKind.i64 5) m n else W Try.prog { fn := fRef09Valid, nt := 63, slots := [(0, Value.int IntKind.i64 nodes), (1, Value.slice links_a links_l links_c), (5, Value.int IntKind.i64 0)], todo := pt Try.prog fRef09Valid [1, 1, 0, 1, 0, 0] } m n Q) := by kernel_rfl

theorem xRef09Validk0 (m : Mem) (n : Nat) (Q : Value → Mem → Nat → Prop) (nodes : Int) (links_a : Option Addr) (links_l : Nat) (links_c : Nat) (i : Int) :
 xF (evX Try.prog xcfg 400) { fn := fRef09Valid, nt := 63, slots := [(0, Value.int IntKind.i64 nodes), (1, Value.slice links_a links_l links_c), (5, Value.int IntKind.i64 i)], todo := pt Try.prog fRef09Valid [1, 1, 0, 1, 0, 0] } m n Q =
 (bif decide (i < (↑links_l : Int)) then
 elimA links_a False fun (k0 k1 : Nat) (p2 : Option Nat) =>
 (0 ≤ i ∧ i < (↑links_l : Int) ∧ liveAt m k0 = true ∧ (p2 ≠ none → 0 < links_c)) ∧
 ∃ (x3 : Int),
 ∃ (x4 : Int),
 ∃ (x5 : Int),
 rds m k0 (offOf k1 p2 + i.toNat * 3) 3 = some [Value.int IntKind.i64 x3, Value.int IntKind.i64 x4, Value.int IntKind.i64 x5] ∧
 memLet (Tr.set m n (AObj.cells none tApiLink 3 [Value.int IntKind.i64 0, Value.int IntKind.i64 0, Value.int IntKind.i64 0])) fun (m6 : Mem) =>
 ∃ (m7 : Mem),
 storeCs m6 n 0 [Value.int IntKind.i64 x3, Value.int IntKind.i64 x4, Value.int IntKind.i64 x5] = some m7 ∧
 isC m7 n = true ∧
 ∃ (x8 : Int),
 rd m7 n 0 = some (Value.int IntKind.i64 x8) ∧
 bif decide (x8 < 0) then Q (Value.int IntKind.i64 2) m7 (n + 1)
 else
 isC m7 n = true ∧
 ∃ (x9 : Int),
 rd m7 n 0 = some (Value.int IntKind.i64 x9) ∧
 bif decide (x9 ≥ nodes) then Q (Value.int IntKind.i64 2) m7 (n + 1)
 else
 isC m7 n = true ∧
 ∃ (x10 : Int),
 rd m7 n 1 = some (Value.int IntKind.i64 x10) ∧
 bif decide (x10 < 0) then Q (Value.int IntKind.i64 2) m7 (n + 1)
 else
 isC m7 n = true ∧
 ∃ (x11 : Int),
 rd m7 n 1 = some (Value.int IntKind.i64 x11) ∧
 bif decide (x11 ≥ nodes) then Q (Value.int IntKind.i64 2) m7 (n + 1)
 else isC m7 n = true ∧ ∃ (x12 : Int), rd m7 n 2 = some (Value.int IntKind.i64 x12) ∧ bif decide (x12 < 1) then Q (Value.int IntKind.i64 2) m7 (n + 1) else isC m7 n = true ∧ ∃ (x13 : Int), rd m7 n 2 = some (Value.int IntKind.i64 x13) ∧ bif decide (x13 > 1000) then Q (Value.int IntKind.i64 2) m7 (n + 1) else isC m7 n = true ∧ ∃ (x14 : Int), rd m7 n 0 = some (Value.int IntKind.i64 x14) ∧ isC m7 n = true ∧ ∃ (x15 : Int), rd m7 n 1 = some (Value.int IntKind.i64 x15) ∧ bif x14 == x15 then Q (Value.int IntKind.i64 12) m7 (n + 1) else W Try.prog { fn := fRef09Valid, nt := 63, slots := [(0, Value.int IntKind.i64 nodes), (1, Value.slice links_a links_l links_c), (5, Value.int IntKind.i64 (IntKind.i64.wrap (i + 1)))], todo := pt Try.prog fRef09Valid [1, 1, 0, 1, 0, 0] } m7 (n + 1) Q
 else Q (Value.int IntKind.i64 0) m n) := by kernel_rfl

/- 57 slices.IndexFunc[[]int,int] -/
theorem xSlicesIndexFuncLintint (m : Mem) (n : Nat) (Q : Value → Mem → Nat → Prop) (s_a : Option Addr) (s_l : Nat) (s_c : Nat) (f_g : Nat) (f_f : List Value) (f_k : List Value) :
 Xc Try.prog xcfg 400 fSlicesIndexFuncLintint [Value.slice s_a s_l s_c, Value.func (Fn.func f_g) { toList := f_f } { toList := f_k }] m n Q =
 (W Try.prog { fn := fSlicesIndexFuncLintint, nt := 19, slots := [(0, Value.slice s_a s_l s_c), (1, Value.func (Fn.func f_g) { toList := f_f } { toList := f_k }), (7, Value.int IntKind.i64 (↑s_l : Int)), (8, Value.int IntKind.i64 0)], todo := pt Try.prog fSlicesIndexFuncLintint [1, 0, 1, 0, 0] } m n Q) := by kernel_rfl

theorem xSlicesIndexFuncLintintk0 (m : Mem) (n : Nat) (Q : Value → Mem → Nat → Prop) (s_a : Option Addr) (s_l : Nat) (s_c : Nat) (f_g : Nat) (f_f : List Value) (f_k : List Value) (t7 : Int) (t8 : Int) :
 xF (evX Try.prog xcfg 400) { fn := fSlicesIndexFuncLintint, nt := 19, slots := [(0, Value.slice s_a s_l s_c), (1, Value.func (Fn.func f_g) { toList := f_f } { toList := f_k }), (7, Value.int IntKind.i64 t7), (8, Value.int IntKind.i64 t8)], todo := pt Try.prog fSlicesIndexFuncLintint [1, 0, 1, 0, 0] } m n Q =
 (bif decide (t8 < t7) then elimA s_a False fun (k0 k1 : Nat) (p2 : Option Nat) => (0 ≤ t8 ∧ t8 < (↑s_l : Int) ∧ liveAt m k0 = true ∧ (p2 ≠ none → 0 < s_c)) ∧ ∃ (x3 : Int), rd m k0 (offOf k1 p2 + t8.toNat * 1) = some (Value.int IntKind.i64 x3) ∧ Wc Try.prog f_g (f_f ++ [Value.int IntKind.i64 x3] ++ f_k) m n fun (v4 : Value) (m5 : Mem) (k6 : Nat) => ∃ (b7 : Bool), v4 = Value.bool b7 ∧ Later (bif b7 then Q (Value.int IntKind.i64 t8) m5 k6 else W Try.prog { fn := fSlicesIndexFuncLintint, nt := 19, slots := [(0, Value.slice s_a s_l s_c), (1, Value.func (Fn.func f_g) { toList := f_f } { toList := f_k }), (7, Value.int IntKind.i64 t7), (8, Value.int IntKind.i64 (IntKind.i64.wrap (t8 + 1)))], todo := pt Try.prog fSlicesIndexFuncLintint [1, 0, 1, 0, 0] } m5 k6 Q) else Q (Value.int IntKind.i64 (-1)) m n) := by kernel_rfl

/- 58 math/bits.Mul32 -/
theorem xMathbitsMul32 (m : Mem) (n : Nat) (Q : Value → Mem → Nat → Prop) (x : Int) (y : Int) :
 Xc Try.prog xcfg 400 fMathbitsMul32 [Value.int IntKind.u32 x, Value.int IntKind.u32 y] m n Q =
 ((0 : Int) ≤ 32 ∧ Q (Value.tuple { toList := [Value.int IntKind.u32 (IntKind.u32.wrap ((IntKind.u64.wrap (IntKind.u64.wrap x * IntKind.u64.wrap y)).fdiv 4294967296)), Value.int IntKind.u32 (IntKind.u32.wrap (IntKind.u64.wrap (IntKind.u64.wrap x * IntKind.u64.wrap y)))] }) m n) := by kernel_rfl

/- 59 math/bits.Mul64 -/
theorem xMathbitsMul64 (m : Mem) (n : Nat) (Q : Value → Mem → Nat → Prop) (x : Int) (y : Int) :
 Xc Try.prog xcfg 400 fMathbitsMul64 [Value.int IntKind.u64 x, Value.int IntKind.u64 y] m n Q =
 ((0 : Int) ≤ 32 ∧
 (0 : Int) ≤ 32 ∧
 (0 : Int) ≤ 32 ∧
 (0 : Int) ≤ 32 ∧
 (0 : Int) ≤ 32 ∧
 Q
 (Value.tuple
 { toList :=
 [Value.int IntKind.u64
 (IntKind.u64.wrap
 (IntKind.u64.wrap (IntKind.u64.wrap (x.fdiv 4294967296 * y.fdiv 4294967296) + (IntKind.u64.wrap (IntKind.u64.wrap (x.fdiv 4294967296 * IntKind.u64.wrap (↑(BitVec.ofInt 64 y &&& BitVec.ofInt 64 4294967295).toNat : Int)) + (IntKind.u64.wrap (IntKind.u64.wrap (↑(BitVec.ofInt 64 x &&& BitVec.ofInt 64 4294967295).toNat : Int) * IntKind.u64.wrap (↑(BitVec.ofInt 64 y &&& BitVec.ofInt 64 4294967295).toNat : Int))).fdiv 4294967296)).fdiv 4294967296) +
 (IntKind.u64.wrap (IntKind.u64.wrap (↑(BitVec.ofInt 64 (IntKind.u64.wrap (IntKind.u64.wrap (x.fdiv 4294967296 * IntKind.u64.wrap (↑(BitVec.ofInt 64 y &&& BitVec.ofInt 64 4294967295).toNat : Int)) + (IntKind.u64.wrap (IntKind.u64.wrap (↑(BitVec.ofInt 64 x &&& BitVec.ofInt 64 4294967295).toNat : Int) * IntKind.u64.wrap (↑(BitVec.ofInt 64 y &&& BitVec.ofInt 64 4294967295).toNat : Int))).fdiv 4294967296)) &&& BitVec.ofInt 64 4294967295).toNat : Int) + IntKind.u64.wrap (IntKind.u64.wrap (↑(BitVec.ofInt 64 x &&& BitVec.ofInt 64 4294967295).toNat : Int) * y.fdiv 4294967296))).fdiv 4294967296)),
 Value.int IntKind.u64 (IntKind.u64.wrap (x * y))] })
 m n) := by kernel_rfl

/- 76 (leafmesh/spf.queue).Less -/
theorem xSpfqueueLess (m : Mem) (n : Nat) (Q : Value → Mem → Nat → Prop) (q_a : Option Addr) (q_l : Nat) (q_c : Nat) (i : Int) (k : Int) :
 Xc Try.prog xcfg 400 fSpfqueueLess [Value.slice q_a q_l q_c, Value.int IntKind.i64 i, Value.int IntKind.i64 k] m n Q =
 (elimA q_a False fun (k0 k1 : Nat) (p2 : Option Nat) => (0 ≤ i ∧ i < (↑q_l : Int) ∧ liveAt m k0 = true ∧ (p2 ≠ none → 0 < q_c)) ∧ isC m k0 = true ∧ ∃ (x3 : Int), rd m k0 (offOf k1 p2 + i.toNat * 2 + 1) = some (Value.int IntKind.i64 x3) ∧ elimA q_a False fun (k4 k5 : Nat) (p6 : Option Nat) => (0 ≤ k ∧ k < (↑q_l : Int) ∧ liveAt m k4 = true ∧ (p6 ≠ none → 0 < q_c)) ∧ isC m k4 = true ∧ ∃ (x7 : Int), rd m k4 (offOf k5 p6 + k.toNat * 2 + 1) = some (Value.int IntKind.i64 x7) ∧ Q (Value.bool (decide (x3 < x7))) m (n + 12)) := by kernel_rfl

/- 77 (*leafmesh/spf.queue).Pop -/
theorem xSpfqueuePop (m : Mem) (n : Nat) (Q : Value → Mem → Nat → Prop) (q : Nat) :
 Xc Try.prog xcfg 400 fSpfqueuePop [Value.pointer (some { block := q, off := 0 })] m n Q =
 (∃ (p0 : Option Addr),
 ∃ (k1 : Nat),
 ∃ (k2 : Nat),
 rd m q 0 = some (Value.slice p0 k1 k2) ∧
 ∃ (p3 : Option Addr),
 ∃ (k4 : Nat),
 ∃ (k5 : Nat),
 rd m q 0 = some (Value.slice p3 k4 k5) ∧
 elimA p3 False fun (k6 k7 : Nat) (p8 : Option Nat) =>
 (0 ≤ IntKind.i64.wrap ((↑k1 : Int) - 1) ∧ IntKind.i64.wrap ((↑k1 : Int) - 1) < (↑k4 : Int) ∧ liveAt m k6 = true ∧ (p8 ≠ none → 0 < k5)) ∧
 ∃ (x9 : Int),
 ∃ (x10 : Int),
 rds m k6 (offOf k7 p8 + (IntKind.i64.wrap ((↑k1 : Int) - 1)).toNat * 2) 2 = some [Value.int IntKind.i64 x9, Value.int IntKind.i64 x10] ∧
 memLet (Tr.set m n (AObj.cells none tSpffar 2 [Value.int IntKind.i64 0, Value.int IntKind.i64 0])) fun (m11 : Mem) =>
 ∃ (m12 : Mem),
 storeCs m11 n 0 [Value.int IntKind.i64 x9, Value.int IntKind.i64 x10] = some m12 ∧
 ∃ (p13 : Option Addr),
 ∃ (k14 : Nat),
 ∃ (k15 : Nat),
 rd m12 q 0 = some (Value.slice p13 k14 k15) ∧
 elimA p13 ((0 ≤ IntKind.i64.wrap ((↑k1 : Int) - 1) ∧ IntKind.i64.wrap ((↑k1 : Int) - 1) ≤ (↑k15 : Int)) ∧ ∃ (m16 : Mem), storeCs m12 q 0 [Value.slice none ((IntKind.i64.wrap ((↑k1 : Int) - 1)).toNat - 0) (k15 - 0)] = some m16 ∧ ∃ (x17 : Int), ∃ (x18 : Int), rds m16 n 0 2 = some [Value.int IntKind.i64 x17, Value.int IntKind.i64 x18] ∧ Q (Value.iface tSpffar (Value.agg { toList := [Value.int IntKind.i64 x17, Value.int IntKind.i64 x18] })) m16 (n + 1)) fun (k19 k20 : Nat) (p21 : Option Nat) =>
 (0 ≤ IntKind.i64.wrap ((↑k1 : Int) - 1) ∧ IntKind.i64.wrap ((↑k1 : Int) - 1) ≤ (↑k15 : Int)) ∧
 elimM p21 (∃ (m22 : Mem), storeCs m12 q 0 [Value.slice (some { block := k19, off := if k15 = 0 then k20 else k20 + 0 }) ((IntKind.i64.wrap ((↑k1 : Int) - 1)).toNat - 0) (k15 - 0)] = some m22 ∧ ∃ (x23 : Int), ∃ (x24 : Int), rds m22 n 0 2 = some [Value.int IntKind.i64 x23, Value.int IntKind.i64 x24] ∧ Q (Value.iface tSpffar (Value.agg { toList := [Value.int IntKind.i64 x23, Value.int IntKind.i64 x24] })) m22 (n + 1)) fun (k25 : Nat) =>
 (0 ≤ k15 ∧ 0 < k15) ∧ ∃ (m26 : Mem), storeCs m12 q 0 [Value.slice (some { block := k19, off := if k15 = 0 then k25 else k25 + 0, spot := some (k25 + 0) }) ((IntKind.i64.wrap ((↑k1 : Int) - 1)).toNat - 0) (k15 - 0)] = some m26 ∧ ∃ (x27 : Int), ∃ (x28 : Int), rds m26 n 0 2 = some [Value.int IntKind.i64 x27, Value.int IntKind.i64 x28] ∧ Q (Value.iface tSpffar (Value.agg { toList := [Value.int IntKind.i64 x27, Value.int IntKind.i64 x28] })) m26 (n + 1)) := by kernel_rfl

/- 78 (*leafmesh/spf.queue).Push -/
theorem xSpfqueuePush (m : Mem) (n : Nat) (Q : Value → Mem → Nat → Prop) (q : Nat) (x0 : Int) (x1 : Int) :
 Xc Try.prog xcfg 400 fSpfqueuePush [Value.pointer (some { block := q, off := 0 }), Value.iface tSpffar (Value.agg { toList := [Value.int IntKind.i64 x0, Value.int IntKind.i64 x1] })] m n Q =
 (∃ (p0 : Option Addr), ∃ (k1 : Nat), ∃ (k2 : Nat), rd m q 0 = some (Value.slice p0 k1 k2) ∧ 53 = 53 ∧ ∃ (x3 : Int), ∃ (x4 : Int), Value.agg { toList := [Value.int IntKind.i64 x0, Value.int IntKind.i64 x1] } = Value.agg { toList := [Value.int IntKind.i64 x3, Value.int IntKind.i64 x4] } ∧ memLet (Tr.set m (n + 6) (AObj.cells none tSpffar 2 [Value.int IntKind.i64 x3, Value.int IntKind.i64 x4])) fun (m5 : Mem) => ∃ (p6 : Option Addr), ∃ (k7 : Nat), ∃ (k8 : Nat), ∃ (m9 : Mem), ∃ (k10 : Nat), appendA Try.prog m5 (n + 10) tSpfqueue tSpfqueue (Value.slice p0 k1 k2) (Value.slice (some { block := n + 6, off := 0 }) 1 1) = Eff.val (Value.slice p6 k7 k8) m9 k10 ∧ ∃ (m11 : Mem), storeCs m9 q 0 [Value.slice p6 k7 k8] = some m11 ∧ n + 10 ≤ k10 ∧ n + 10 ≤ k10 ∧ Q (Value.tuple { toList := [] }) m11 k10) := by kernel_rfl

/- 79 (leafmesh/spf.queue).Swap -/
theorem xSpfqueueSwap (m : Mem) (n : Nat) (Q : Value → Mem → Nat → Prop) (q_a : Option Addr) (q_l : Nat) (q_c : Nat) (i : Int) (k : Int) :
 Xc Try.prog xcfg 400 fSpfqueueSwap [Value.slice q_a q_l q_c, Value.int IntKind.i64 i, Value.int IntKind.i64 k] m n Q =
 (elimA q_a False fun (k0 k1 : Nat) (p2 : Option Nat) =>
 (0 ≤ k ∧ k < (↑q_l : Int) ∧ liveAt m k0 = true ∧ (p2 ≠ none → 0 < q_c)) ∧
 ∃ (x3 : Int),
 ∃ (x4 : Int),
 rds m k0 (offOf k1 p2 + k.toNat * 2) 2 = some [Value.int IntKind.i64 x3, Value.int IntKind.i64 x4] ∧
 elimA q_a False fun (k5 k6 : Nat) (p7 : Option Nat) => (0 ≤ i ∧ i < (↑q_l : Int) ∧ liveAt m k5 = true ∧ (p7 ≠ none → 0 < q_c)) ∧ ∃ (x8 : Int), ∃ (x9 : Int), rds m k5 (offOf k6 p7 + i.toNat * 2) 2 = some [Value.int IntKind.i64 x8, Value.int IntKind.i64 x9] ∧ elimA q_a False fun (k10 k11 : Nat) (p12 : Option Nat) => (0 ≤ i ∧ i < (↑q_l : Int) ∧ liveAt m k10 = true ∧ (p12 ≠ none → 0 < q_c)) ∧ ∃ (m13 : Mem), storeCs m k10 (offOf k11 p12 + i.toNat * 2) [Value.int IntKind.i64 x3, Value.int IntKind.i64 x4] = some m13 ∧ elimA q_a False fun (k14 k15 : Nat) (p16 : Option Nat) => (0 ≤ k ∧ k < (↑q_l : Int) ∧ liveAt m13 k14 = true ∧ (p16 ≠ none → 0 < q_c)) ∧ ∃ (m17 : Mem), storeCs m13 k14 (offOf k15 p16 + k.toNat * 2) [Value.int IntKind.i64 x8, Value.int IntKind.i64 x9] = some m17 ∧ n + 16 ≤ n + 16 ∧ n + 16 ≤ n + 16 ∧ Q (Value.tuple { toList := [] }) m17 (n + 16)) := by kernel_rfl


end Go.Proofs.Ytenpbdanffacjaa
