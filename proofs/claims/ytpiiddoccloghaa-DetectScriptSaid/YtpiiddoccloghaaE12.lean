/- E12: what parts of the program compute; helper of the claim. -/
import Derived.Test.YtpiiddoccloghaaProg
import Derived.KernelRfl
import Derived.Test.YtpiiddoccloghaaAb33
namespace Go.Proofs.Ytpiiddoccloghaa
open Go Go.Ab
set_option maxRecDepth 100000
noncomputable def d12xcfg : Cfg := mkCfg [29] [(9, [(0, [0]), (1, [0, 9]), (2, [2, 3]), (3, [2, 3])]), (11, [(0, [0, 1, 2]), (1, [0, 1, 2, 10]), (2, [6, 7]), (3, [0, 1, 2, 14]), (4, [6, 7]), (5, [0, 1, 2, 21]), (6, [6, 7]), (7, [0, 1, 2, 8]), (8, [0, 1, 2, 8, 59]), (9, [0, 1, 2, 8]), (10, [0, 1, 2, 8]), (11, [0, 1, 2, 8]), (12, [0, 1, 2, 8, 9]), (13, [0, 1, 2, 8]), (14, [0, 1, 8, 105]), (15, [8]), (16, [6, 7]), (2000007, [0, 1, 2]), (2000008, [0, 1, 2, 8]), (2000012, [0, 1, 2, 8])]), (12, [(0, [0]), (1, [0, 6]), (2, [2, 3]), (3, [2, 3])]), (13, [(0, [0]), (1, [0, 5]), (2, [2]), (3, []), (4, [2])]), (14, [(0, [0]), (1, [0, 5]), (2, [2]), (3, [2])]), (19, [(0, [0]), (1, [2])]), (21, [(0, [0]), (1, [0, 5]), (2, [2]), (3, [2])]), (25, [(0, [0]), (1, [0, 7]), (2, [2]), (3, [3]), (4, [3, 16]), (5, [3, 4]), (6, [3]), (7, [2])]), (16, [(0, [0, 1]), (1, [0, 1]), (2, [0, 1, 9]), (3, [0]), (4, [4])]), (17, [(0, [0, 1, 2]), (1, [0, 1, 2, 8]), (2, [0, 1, 2, 8, 9]), (3, [0, 1, 2, 8, 9, 16]), (4, [0, 1, 2, 8, 9]), (5, [0, 1, 2, 8, 9, 10]), (6, [0, 1, 2, 8, 9, 10, 11, 12]), (7, [0, 1, 2, 8, 9, 42]), (8, [6, 7]), (9, [0, 1, 2, 8, 9]), (10, [6, 7]), (1000003, [0, 1, 2, 8, 9])]), (18, [(0, [0]), (1, [2])]), (20, [(0, [0, 1]), (1, [0, 1, 10]), (2, [4]), (3, [0, 1, 5]), (4, [0, 1, 5, 14]), (5, [0, 1, 5]), (6, [0, 1, 5, 25]), (7, [4]), (8, [4]), (1000004, [0, 1, 5])]), (22, [(0, [0, 1]), (1, [0, 1, 5]), (2, [0, 1, 5, 9]), (3, [0, 1, 5]), (4, [0, 1, 5, 17]), (5, [4]), (6, [4]), (1000002, [0, 1, 5])]), (4, [(0, [0, 1, 2]), (1, [0, 1, 2, 7]), (2, [0, 1, 2, 7, 19]), (3, [6]), (4, [0, 1, 2, 7]), (5, [0, 1, 2, 7]), (6, [0, 1, 2, 7, 8, 9]), (7, [0, 1, 2, 7, 8, 36]), (8, [6]), (9, [0, 1, 7, 10, 11]), (10, [0, 1, 7, 10, 45]), (11, [6]), (12, [0, 1, 7, 10, 12]), (13, [0, 1, 7, 10, 12, 49]), (14, [0, 1, 7, 10, 12]), (15, [0, 1, 7, 10, 12, 13, 14]), (16, [0, 1, 7, 10, 12, 13, 14, 15]), (17, [0, 1, 7, 10, 12, 13, 14, 15, 54]), (18, [0, 1, 7, 10, 12, 13, 14, 15]), (19, [0, 1, 7, 10, 12, 13, 14, 15, 60]), (20, [0, 1, 7, 10, 12, 13, 14, 15]), (21, [0, 1, 7, 10, 12, 13, 14, 15]), (22, [0, 1, 7, 10, 12, 13, 14, 15, 65]), (23, [0, 1, 7, 10, 12, 13, 14, 15]), (24, [0, 1, 7, 10, 12, 13, 14, 15, 80]), (25, [0, 1, 7, 10, 12, 13, 14, 15]), (26, [0, 1, 7, 10, 12, 86]), (27, [6]), (28, [6]), (1000013, [0, 1, 7, 10, 12]), (1000017, [0, 1, 7, 10, 12, 13, 14, 15])]), (5, [(0, [0, 1, 2]), (1, [0, 1, 2, 7]), (2, [0, 1, 2, 7, 21]), (3, [6]), (4, [0, 1, 2, 7]), (5, [0, 1, 2, 7]), (6, [0, 1, 2, 7, 8, 9]), (7, [0, 1, 2, 7, 8, 38]), (8, [6]), (9, [0, 1, 2, 7, 8, 11]), (10, [0, 7, 8, 11, 12]), (11, [0, 7, 8, 12, 60]), (12, [6]), (13, [0, 7, 8, 12, 13]), (14, [0, 7, 8, 12, 13, 14]), (15, [0, 7, 8, 12, 13, 14, 65]), (16, [0, 7, 8, 12, 13, 14]), (17, [0, 7, 8, 12, 13, 14, 15, 16]), (18, [0, 7, 8, 12, 13, 14, 88]), (19, [6]), (20, [0, 7, 8, 12, 13, 14]), (21, [7, 8, 11, 12, 13, 17]), (22, [6]), (1000015, [0, 7, 8, 12, 13, 14])]), (6, [(0, [0, 1]), (1, [0, 1, 5]), (2, [0, 1, 5, 18]), (3, [4]), (4, [0, 1, 5]), (5, [0, 1, 5, 6, 7]), (6, [0, 1, 5, 6, 33]), (7, [4]), (8, [0, 1, 5, 6, 9]), (9, [0, 1, 5, 6, 9, 10]), (10, [0, 1, 5, 6, 9, 10, 11]), (11, [0, 1, 5, 6, 9, 10, 11, 46]), (12, [0, 1, 5, 6, 9, 10, 11]), (13, [0, 1, 5, 6, 10, 11, 12]), (14, [0, 1, 5, 6, 10, 11, 12, 13, 14]), (15, [0, 1, 5, 6, 9, 10, 11, 12]), (16, [0, 1, 5, 6, 9, 10, 11]), (17, [4]), (1000011, [0, 1, 5, 6, 9, 10, 11])]), (7, [(0, [0, 1]), (1, [0, 1, 19]), (2, [4]), (3, [0, 1, 5, 6]), (4, [1, 5, 6, 7, 8]), (5, [1, 5, 7, 40]), (6, [4]), (7, [1, 5, 7, 9]), (8, [1, 5, 7, 9, 10]), (9, [1, 5, 7, 9, 10, 48]), (10, [1, 5, 7, 9, 10]), (11, [1, 5, 7, 9, 10, 11]), (12, [1, 5, 7, 9, 10, 11, 57]), (13, [1, 5, 7, 9, 10, 59]), (14, [1, 5, 7, 9, 10]), (15, [1, 5, 7, 9, 10]), (16, [1, 5, 7, 9, 10, 13, 14]), (17, [1, 5, 7, 9, 10, 13, 14, 15, 16]), (18, [1, 5, 7, 9, 10, 101]), (19, [4]), (20, [1, 5, 7, 9, 10, 11, 57, 102]), (21, [1, 5, 7, 9, 10, 106]), (22, [4]), (23, [1, 5, 7, 9, 10]), (24, [1, 5, 7, 9, 10, 11, 109]), (25, [1, 5, 7, 9, 10, 12]), (26, [1, 5, 7, 9, 10, 12]), (27, [1, 5, 7, 9, 10, 12]), (28, [1, 5, 7, 9, 10, 12]), (29, [1, 5, 7, 9, 10]), (30, [1, 5, 7, 9, 10, 129]), (31, [4]), (32, [4]), (1000009, [1, 5, 7, 9, 10])]), (8, [(0, [0, 1]), (1, [0, 1, 5]), (2, [0, 1, 5, 6]), (3, [0, 1, 5, 6, 16]), (4, [0, 1, 5, 6]), (5, [0, 1, 5, 6, 7]), (6, [0, 1, 5, 6, 7, 8, 9]), (7, [0, 1, 5, 6, 7, 8, 9, 10, 11]), (8, [0, 1, 5, 6, 71]), (9, [4]), (10, [4]), (1000003, [0, 1, 5, 6])]), (10, [(0, [0, 1, 2, 3]), (1, [3, 9, 10]), (2, [8])]), (23, [(0, [0]), (1, [0, 9]), (2, [2, 3]), (3, [2, 3])]), (24, [(0, [0, 2]), (1, [])]), (26, [(0, [0]), (1, [3]), (2, [2])]), (27, [(0, [0, 1, 2]), (1, [0, 1, 2, 9]), (2, [6, 7]), (3, [0, 1, 2, 16]), (4, [6, 7]), (5, [0, 1, 2]), (6, [0, 1, 2, 33]), (7, [0, 1, 2, 8]), (8, [0, 1, 2, 8]), (9, [0, 1, 2, 8, 65]), (10, [0, 1, 2, 8]), (11, [0, 1, 2, 8]), (12, [0, 1, 8]), (13, [0, 1, 8, 78]), (14, [0, 1, 8]), (15, [0, 8]), (16, [8]), (17, [6, 7]), (2000005, [0, 1, 2]), (2000009, [0, 1, 2, 8]), (2000011, [0, 1, 2, 8])]), (28, [(0, [0, 1]), (1, [0, 1, 5, 6]), (2, [0, 1, 5, 6, 7, 8]), (3, [4])]), (31, [(0, [0]), (1, [0, 8]), (2, [2, 3]), (3, [2, 3])]), (30, [(0, [0]), (1, [0])]), (32, [(0, [0, 1, 2]), (1, [6])]), (33, [(0, [0, 1, 2]), (1, [6])]), (15, [(0, []), (1, [1, 2]), (2, [1, 21]), (3, [0]), (4, [1, 3, 4]), (5, [0])]), (3, [(0, []), (1, [1, 2]), (2, [1, 24]), (3, [0]), (4, [1]), (5, [1, 3]), (6, [1, 3, 5]), (7, [1, 3, 5, 7]), (8, [1, 3, 5, 7, 9]), (9, [3, 10]), (10, [3, 10, 12]), (11, [3, 10, 12, 14]), (12, [0])]), (29, [(0, [0]), (1, [2])])] [(30, .agg ⟨[.func (.func 32) ⟨[]⟩ ⟨[]⟩, .func (.func 33) ⟨[]⟩ ⟨[]⟩]⟩)] [(11, [7, 8, 12]), (27, [5, 9, 11])]
/- 9 leafmesh/detect.New -/
theorem d12x9 (m : Mem) (n : Nat) (Q : Value → Mem → Nat → Prop) (multiplier : Int) :
    Xc Try.prog d12xcfg 400 9 [Value.int IntKind.i64 multiplier] m n Q =
    (bif decide (multiplier < 1) then Q (Value.tuple { toList := [Value.pointer none, Value.int IntKind.i64 2] }) m n
else
  bif decide (multiplier > 1000) then Q (Value.tuple { toList := [Value.pointer none, Value.int IntKind.i64 2] }) m n
  else
    Q (Value.tuple { toList := [Value.pointer (some { block := n + 1, off := 0 }), Value.int IntKind.i64 0] })
      ((Tr.set m n (AObj.cells none 62 7 [Value.int IntKind.i64 multiplier, Value.int IntKind.i64 0, Value.pointer none, Value.bool false, Value.int IntKind.i64 0, Value.int IntKind.i64 0, Value.int IntKind.i64 0])).set (n + 1)
        (AObj.cells none 56 1 [Value.pointer (some { block := n, off := 0 })]))
      (n + 1 + 1)) := by kernel_rfl

/- 11 (*leafmesh/detect.Watch).Tick -/
theorem d12x11 (m : Mem) (n : Nat) (Q : Value → Mem → Nat → Prop) (w : Nat) (now : Int) (heard : Bool) :
    Xc Try.prog d12xcfg 400 11 [Value.pointer (some { block := w, off := 0 }), Value.int IntKind.i64 now, Value.bool heard] m n Q =
    (isC m w = true ∧
  ∃ (p0 : Option Addr),
    rd m w 0 = some (Value.pointer p0) ∧
      bif !!p0.isNone then Q (Value.tuple { toList := [Value.bool false, Value.int IntKind.i64 1] }) m n
      else
        bif decide (now < 0) then Q (Value.tuple { toList := [Value.bool false, Value.int IntKind.i64 2] }) m n
        else
          bif decide (now > 1099511627776) then Q (Value.tuple { toList := [Value.bool false, Value.int IntKind.i64 2] }) m n
          else
            isC m w = true ∧
              ∃ (p1 : Option Addr),
                rd m w 0 = some (Value.pointer p1) ∧
                  elimP p1 False fun (k2 k3 : Nat) =>
                    isC m k2 = true ∧
                      ∃ (p4 : Option Addr),
                        rd m k2 (k3 + 2) = some (Value.pointer p4) ∧
                          bif !p4.isNone then
                            isC m w = true ∧
                              ∃ (p5 : Option Addr),
                                rd m w 0 = some (Value.pointer p5) ∧
                                  elimP p5 False fun (k6 k7 : Nat) =>
                                    isC m k6 = true ∧
                                      ∃ (p8 : Option Addr),
                                        rd m k6 (k7 + 2) = some (Value.pointer p8) ∧
                                          elimP p8 False fun (k9 k10 : Nat) =>
                                            ∃ (x11 : Int),
                                              rd m k9 k10 = some (Value.int IntKind.i64 x11) ∧
                                                bif decide (now ≤ x11) then Q (Value.tuple { toList := [Value.bool false, Value.int IntKind.i64 20] }) m n
                                                else W Try.prog { fn := 11, nt := 114, slots := [(0, Value.pointer (some { block := w, off := 0 })), (1, Value.int IntKind.i64 now), (2, Value.bool heard)], todo := pt Try.prog 11 [1, 1, 0] } m n Q
                          else W Try.prog { fn := 11, nt := 114, slots := [(0, Value.pointer (some { block := w, off := 0 })), (1, Value.int IntKind.i64 now), (2, Value.bool heard)], todo := pt Try.prog 11 [1, 1, 0] } m n Q) := by kernel_rfl

theorem d12x11k0 (m : Mem) (n : Nat) (Q : Value → Mem → Nat → Prop) (w : Nat) (now : Int) (heard : Bool) :
    xF (ev1 Try.prog d12xcfg 400) { fn := 11, nt := 114, slots := [(0, Value.pointer (some { block := w, off := 0 })), (1, Value.int IntKind.i64 now), (2, Value.bool heard)], todo := pt Try.prog 11 [1, 1, 0] } m n Q =
    (∃ (m0 : Mem),
  ∃ (k1 : Nat),
    (Wc Try.prog 30 [] m (n + 17) fun (v2 : Value) (m3 : Mem) (k4 : Nat) => v2 = Value.agg { toList := [Value.func (Fn.func 32) { toList := [] } { toList := [] }, Value.func (Fn.func 33) { toList := [] } { toList := [] }] } ∧ m3 = m0 ∧ k4 = k1) ∧
      Later
        (isC m0 w = true ∧
          ∃ (p5 : Option Addr),
            rd m0 w 0 = some (Value.pointer p5) ∧
              elimP p5 False fun (k6 k7 : Nat) =>
                isC m0 k6 = true ∧
                  ∃ (x8 : Int),
                    rd m0 k6 (k7 + 1) = some (Value.int IntKind.i64 x8) ∧
                      bif x8 == 0 then
                        isC m0 w = true ∧
                          ∃ (p9 : Option Addr),
                            rd m0 w 0 = some (Value.pointer p9) ∧
                              ∃ (b10 : Bool),
                                ∃ (m11 : Mem),
                                  ∃ (k12 : Nat),
                                    (Wc Try.prog 32 [Value.pointer p9, Value.int IntKind.i64 now, Value.bool heard] m0 k1 fun (v13 : Value) (m14 : Mem) (k15 : Nat) => v13 = Value.bool b10 ∧ m14 = m11 ∧ k15 = k12) ∧
                                      Later
                                        ((∃ (p16 : Option Addr), rd m w 0 = some (Value.pointer p16) ∧ Value.pointer p16 = Value.pointer p9) ∧
                                          (isC m w = true ∧ Value.pointer (some { block := w, off := 0 }) = Value.pointer (some { block := w, off := 0 })) ∧
                                            (∃ (x17 : Int), rd m k6 (k7 + 1) = some (Value.int IntKind.i64 x17) ∧ Value.int IntKind.i64 x17 = Value.int IntKind.i64 x8) ∧
                                              (isC m k6 = true ∧ Value.pointer (some { block := k6, off := k7 + 1 }) = Value.pointer (some { block := k6, off := k7 + 1 })) ∧
                                                (∃ (p18 : Option Addr), rd m w 0 = some (Value.pointer p18) ∧ Value.pointer p18 = Value.pointer p5) ∧
                                                  (isC m w = true ∧ Value.pointer (some { block := w, off := 0 }) = Value.pointer (some { block := w, off := 0 })) ∧
                                                    n + 17 ≤ k1 ∧
                                                      n + 17 ≤ k12 ∧
                                                        W Try.prog
                                                          { fn := 11, nt := 114, slots := [(0, Value.pointer (some { block := w, off := 0 })), (1, Value.int IntKind.i64 now), (2, Value.bool heard), (8, Value.bool b10)],
                                                            todo := pt Try.prog 11 [1, 1, 1, 0, 0] }
                                                          m11 k12 Q)
                      else
                        bif x8 == 1 then
                          isC m0 w = true ∧
                            ∃ (p19 : Option Addr),
                              rd m0 w 0 = some (Value.pointer p19) ∧
                                ∃ (b20 : Bool),
                                  ∃ (m21 : Mem),
                                    ∃ (k22 : Nat),
                                      (Wc Try.prog 33 [Value.pointer p19, Value.int IntKind.i64 now, Value.bool heard] m0 k1 fun (v23 : Value) (m24 : Mem) (k25 : Nat) => v23 = Value.bool b20 ∧ m24 = m21 ∧ k25 = k22) ∧
                                        Later
                                          ((∃ (p26 : Option Addr), rd m w 0 = some (Value.pointer p26) ∧ Value.pointer p26 = Value.pointer p19) ∧
                                            (isC m w = true ∧ Value.pointer (some { block := w, off := 0 }) = Value.pointer (some { block := w, off := 0 })) ∧
                                              (∃ (x27 : Int), rd m k6 (k7 + 1) = some (Value.int IntKind.i64 x27) ∧ Value.int IntKind.i64 x27 = Value.int IntKind.i64 x8) ∧
                                                (isC m k6 = true ∧ Value.pointer (some { block := k6, off := k7 + 1 }) = Value.pointer (some { block := k6, off := k7 + 1 })) ∧
                                                  (∃ (p28 : Option Addr), rd m w 0 = some (Value.pointer p28) ∧ Value.pointer p28 = Value.pointer p5) ∧
                                                    (isC m w = true ∧ Value.pointer (some { block := w, off := 0 }) = Value.pointer (some { block := w, off := 0 })) ∧
                                                      n + 17 ≤ k1 ∧
                                                        n + 17 ≤ k22 ∧
                                                          W Try.prog
                                                            { fn := 11, nt := 114, slots := [(0, Value.pointer (some { block := w, off := 0 })), (1, Value.int IntKind.i64 now), (2, Value.bool heard), (8, Value.bool b20)],
                                                              todo := pt Try.prog 11 [1, 1, 1, 0, 0] }
                                                            m21 k22 Q)
                        else False)) := by kernel_rfl

theorem d12x11k1 (m : Mem) (n : Nat) (Q : Value → Mem → Nat → Prop) (w : Nat) (now : Int) (heard : Bool) (changes : Bool) :
    xF (ev1 Try.prog d12xcfg 400) { fn := 11, nt := 114, slots := [(0, Value.pointer (some { block := w, off := 0 })), (1, Value.int IntKind.i64 now), (2, Value.bool heard), (8, Value.bool changes)], todo := pt Try.prog 11 [1, 1, 1, 0, 0] } m n Q =
    (bif changes then
  isC m w = true ∧
    ∃ (p0 : Option Addr),
      rd m w 0 = some (Value.pointer p0) ∧
        isC m w = true ∧
          ∃ (p1 : Option Addr),
            rd m w 0 = some (Value.pointer p1) ∧
              elimP p1 False fun (k2 k3 : Nat) =>
                isC m k2 = true ∧
                  ∃ (x4 : Int),
                    rd m k2 (k3 + 1) = some (Value.int IntKind.i64 x4) ∧
                      elimP p0 False fun (k5 k6 : Nat) =>
                        isC m k5 = true ∧
                          ∃ (m7 : Mem),
                            storeCs m k5 (k6 + 1) [Value.int IntKind.i64 (IntKind.i64.wrap (1 - x4))] = some m7 ∧
                              n + 15 ≤ n + 15 ∧
                                isC m7 w = true ∧
                                  ∃ (p8 : Option Addr),
                                    rd m7 w 0 = some (Value.pointer p8) ∧
                                      elimP p8 False fun (k9 k10 : Nat) =>
                                        isC m7 k9 = true ∧
                                          ∃ (m11 : Mem),
                                            storeCs m7 k9 (k10 + 5) [Value.int IntKind.i64 now] = some m11 ∧
                                              isC m11 w = true ∧
                                                ∃ (p12 : Option Addr),
                                                  rd m11 w 0 = some (Value.pointer p12) ∧
                                                    elimP p12 False fun (k13 k14 : Nat) =>
                                                      isC m11 k13 = true ∧
                                                        ∃ (x15 : Int),
                                                          rd m11 k13 (k14 + 6) = some (Value.int IntKind.i64 x15) ∧
                                                            elimP p12 False fun (k16 k17 : Nat) =>
                                                              isC m11 k16 = true ∧
                                                                ∃ (m18 : Mem),
                                                                  storeCs m11 k16 (k17 + 6) [Value.int IntKind.i64 (IntKind.i64.wrap (x15 + 1))] = some m18 ∧
                                                                    W Try.prog
                                                                      { fn := 11, nt := 114, slots := [(0, Value.pointer (some { block := w, off := 0 })), (1, Value.int IntKind.i64 now), (2, Value.bool heard), (8, Value.bool changes)],
                                                                        todo := pt Try.prog 11 [1, 1, 1, 1, 0] }
                                                                      m18 (n + 15) Q
else W Try.prog { fn := 11, nt := 114, slots := [(0, Value.pointer (some { block := w, off := 0 })), (1, Value.int IntKind.i64 now), (2, Value.bool heard), (8, Value.bool changes)], todo := pt Try.prog 11 [1, 1, 1, 1, 0] } m n Q) := by kernel_rfl

theorem d12x11k2 (m : Mem) (n : Nat) (Q : Value → Mem → Nat → Prop) (w : Nat) (now : Int) (heard : Bool) (changes_1 : Bool) :
    xF (ev1 Try.prog d12xcfg 400) { fn := 11, nt := 114, slots := [(0, Value.pointer (some { block := w, off := 0 })), (1, Value.int IntKind.i64 now), (2, Value.bool heard), (8, Value.bool changes_1)], todo := pt Try.prog 11 [1, 1, 1, 1, 0] } m n Q =
    (∃ (m0 : Mem),
  storeCs (Tr.set m n (AObj.cells none 3 1 [Value.int IntKind.i64 0])) n 0 [Value.int IntKind.i64 now] = some m0 ∧
    isC m0 w = true ∧
      ∃ (p1 : Option Addr),
        rd m0 w 0 = some (Value.pointer p1) ∧
          isC m0 w = true ∧
            ∃ (p2 : Option Addr),
              rd m0 w 0 = some (Value.pointer p2) ∧
                elimP p1 False fun (k3 k4 : Nat) =>
                  isC m0 k3 = true ∧
                    ∃ (m5 : Mem),
                      storeCs m0 k3 (k4 + 2) [Value.pointer (some { block := n, off := 0 })] = some m5 ∧
                        elimP p2 False fun (k6 k7 : Nat) =>
                          isC m5 k6 = true ∧
                            ∃ (m8 : Mem),
                              storeCs m5 k6 (k7 + 3) [Value.bool heard] = some m8 ∧
                                n + 1 + 15 ≤ n + 1 + 15 ∧
                                  n + 1 + 15 ≤ n + 1 + 15 ∧
                                    bif heard then
                                      isC m8 w = true ∧
                                        ∃ (p9 : Option Addr),
                                          rd m8 w 0 = some (Value.pointer p9) ∧
                                            elimP p9 False fun (k10 k11 : Nat) =>
                                              isC m8 k10 = true ∧ ∃ (m12 : Mem), storeCs m8 k10 (k11 + 4) [Value.int IntKind.i64 now] = some m12 ∧ Q (Value.tuple { toList := [Value.bool changes_1, Value.int IntKind.i64 0] }) m12 (n + 1 + 15)
                                    else Q (Value.tuple { toList := [Value.bool changes_1, Value.int IntKind.i64 0] }) m8 (n + 1 + 15)) := by kernel_rfl

/- 12 (*leafmesh/detect.Watch).Due -/
theorem d12x12 (m : Mem) (n : Nat) (Q : Value → Mem → Nat → Prop) (w : Nat) :
    Xc Try.prog d12xcfg 400 12 [Value.pointer (some { block := w, off := 0 })] m n Q =
    (Wc Try.prog 19 [Value.pointer (some { block := w, off := 0 })] m n fun (v0 : Value) (m1 : Mem) (k2 : Nat) =>
  ∃ (b3 : Bool),
    v0 = Value.bool b3 ∧
      Later
        (bif !b3 then Q (Value.tuple { toList := [Value.int IntKind.i64 0, Value.bool false] }) m1 k2
        else
          isC m1 w = true ∧
            ∃ (p4 : Option Addr),
              rd m1 w 0 = some (Value.pointer p4) ∧
                elimP p4 False fun (k5 k6 : Nat) =>
                  isC m1 k5 = true ∧
                    ∃ (x7 : Int),
                      rd m1 k5 (k6 + 4) = some (Value.int IntKind.i64 x7) ∧
                        isC m1 w = true ∧
                          ∃ (p8 : Option Addr),
                            rd m1 w 0 = some (Value.pointer p8) ∧
                              elimP p8 False fun (k9 k10 : Nat) =>
                                isC m1 k9 = true ∧ ∃ (x11 : Int), rd m1 k9 (k10 + 0) = some (Value.int IntKind.i64 x11) ∧ Q (Value.tuple { toList := [Value.int IntKind.i64 (IntKind.i64.wrap (x7 + x11)), Value.bool true] }) m1 (k2 + 17))) := by kernel_rfl

/- 13 (*leafmesh/detect.Watch).Reset -/
theorem d12x13 (m : Mem) (n : Nat) (Q : Value → Mem → Nat → Prop) (w : Nat) :
    Xc Try.prog d12xcfg 400 13 [Value.pointer (some { block := w, off := 0 })] m n Q =
    (isC m w = true ∧
  ∃ (p0 : Option Addr),
    rd m w 0 = some (Value.pointer p0) ∧
      bif !!p0.isNone then Q (Value.int IntKind.i64 1) m n
      else
        isC m w = true ∧
          ∃ (p1 : Option Addr),
            rd m w 0 = some (Value.pointer p1) ∧
              isC m w = true ∧
                ∃ (p2 : Option Addr),
                  rd m w 0 = some (Value.pointer p2) ∧
                    elimP p2 False fun (k3 k4 : Nat) =>
                      isC m k3 = true ∧
                        ∃ (x5 : Int),
                          rd m k3 (k4 + 0) = some (Value.int IntKind.i64 x5) ∧
                            elimP p1 False fun (k6 k7 : Nat) =>
                              ∃ (m8 : Mem),
                                storeCs m k6 k7 [Value.int IntKind.i64 x5, Value.int IntKind.i64 0, Value.pointer none, Value.bool false, Value.int IntKind.i64 0, Value.int IntKind.i64 0, Value.int IntKind.i64 0] = some m8 ∧
                                  n + 14 ≤ n + 14 ∧ Q (Value.int IntKind.i64 0) m8 (n + 14)) := by kernel_rfl

/- 14 (*leafmesh/detect.Watch).Changes -/
theorem d12x14 (m : Mem) (n : Nat) (Q : Value → Mem → Nat → Prop) (w : Nat) :
    Xc Try.prog d12xcfg 400 14 [Value.pointer (some { block := w, off := 0 })] m n Q =
    (isC m w = true ∧
  ∃ (p0 : Option Addr),
    rd m w 0 = some (Value.pointer p0) ∧
      bif !!p0.isNone then Q (Value.int IntKind.i64 0) m n
      else isC m w = true ∧ ∃ (p1 : Option Addr), rd m w 0 = some (Value.pointer p1) ∧ elimP p1 False fun (k2 k3 : Nat) => isC m k2 = true ∧ ∃ (x4 : Int), rd m k2 (k3 + 6) = some (Value.int IntKind.i64 x4) ∧ Q (Value.int IntKind.i64 x4) m n) := by kernel_rfl

/- 19 (*leafmesh/detect.Watch).Up -/
theorem d12x19 (m : Mem) (n : Nat) (Q : Value → Mem → Nat → Prop) (w : Nat) :
    Xc Try.prog d12xcfg 400 19 [Value.pointer (some { block := w, off := 0 })] m n Q =
    (isC m w = true ∧
  ∃ (p0 : Option Addr),
    rd m w 0 = some (Value.pointer p0) ∧
      bif !p0.isNone then
        isC m w = true ∧ ∃ (p1 : Option Addr), rd m w 0 = some (Value.pointer p1) ∧ elimP p1 False fun (k2 k3 : Nat) => isC m k2 = true ∧ ∃ (x4 : Int), rd m k2 (k3 + 1) = some (Value.int IntKind.i64 x4) ∧ Q (Value.bool (x4 == 1)) m n
      else Q (Value.bool false) m n) := by kernel_rfl

/- 21 (*leafmesh/detect.Watch).Since -/
theorem d12x21 (m : Mem) (n : Nat) (Q : Value → Mem → Nat → Prop) (w : Nat) :
    Xc Try.prog d12xcfg 400 21 [Value.pointer (some { block := w, off := 0 })] m n Q =
    (isC m w = true ∧
  ∃ (p0 : Option Addr),
    rd m w 0 = some (Value.pointer p0) ∧
      bif !!p0.isNone then Q (Value.int IntKind.i64 0) m n
      else isC m w = true ∧ ∃ (p1 : Option Addr), rd m w 0 = some (Value.pointer p1) ∧ elimP p1 False fun (k2 k3 : Nat) => isC m k2 = true ∧ ∃ (x4 : Int), rd m k2 (k3 + 5) = some (Value.int IntKind.i64 x4) ∧ Q (Value.int IntKind.i64 x4) m n) := by kernel_rfl

/- 25 (*leafmesh/detect.Watch).Copy -/
theorem d12x25 (m : Mem) (n : Nat) (Q : Value → Mem → Nat → Prop) (w : Nat) :
    Xc Try.prog d12xcfg 400 25 [Value.pointer (some { block := w, off := 0 })] m n Q =
    (isC m w = true ∧
  ∃ (p0 : Option Addr),
    rd m w 0 = some (Value.pointer p0) ∧
      bif !!p0.isNone then Q (Value.pointer none) m n
      else
        isC m w = true ∧
          ∃ (p1 : Option Addr),
            rd m w 0 = some (Value.pointer p1) ∧
              elimP p1 False fun (k2 k3 : Nat) =>
                ∃ (x4 : Int),
                  ∃ (x5 : Int),
                    ∃ (p6 : Option Addr),
                      ∃ (b7 : Bool),
                        ∃ (x8 : Int),
                          ∃ (x9 : Int),
                            ∃ (x10 : Int),
                              rds m k2 k3 7 = some [Value.int IntKind.i64 x4, Value.int IntKind.i64 x5, Value.pointer p6, Value.bool b7, Value.int IntKind.i64 x8, Value.int IntKind.i64 x9, Value.int IntKind.i64 x10] ∧
                                ∃ (m11 : Mem),
                                  storeCs (Tr.set m n (AObj.cells none 62 7 [Value.int IntKind.i64 0, Value.int IntKind.i64 0, Value.pointer none, Value.bool false, Value.int IntKind.i64 0, Value.int IntKind.i64 0, Value.int IntKind.i64 0])) n 0
                                        [Value.int IntKind.i64 x4, Value.int IntKind.i64 x5, Value.pointer p6, Value.bool b7, Value.int IntKind.i64 x8, Value.int IntKind.i64 x9, Value.int IntKind.i64 x10] =
                                      some m11 ∧
                                    isC m11 n = true ∧
                                      ∃ (p12 : Option Addr),
                                        rd m11 n 2 = some (Value.pointer p12) ∧
                                          bif !p12.isNone then
                                            isC m11 n = true ∧
                                              ∃ (p13 : Option Addr),
                                                rd m11 n 2 = some (Value.pointer p13) ∧
                                                  elimP p13 False fun (k14 k15 : Nat) =>
                                                    ∃ (x16 : Int),
                                                      rd m11 k14 k15 = some (Value.int IntKind.i64 x16) ∧
                                                        ∃ (m17 : Mem),
                                                          storeCs (Tr.set m11 (n + 1) (AObj.cells none 3 1 [Value.int IntKind.i64 0])) (n + 1) 0 [Value.int IntKind.i64 x16] = some m17 ∧
                                                            isC m17 n = true ∧
                                                              ∃ (m18 : Mem),
                                                                storeCs m17 n 2 [Value.pointer (some { block := n + 1, off := 0 })] = some m18 ∧
                                                                  Q (Value.pointer (some { block := n + 1 + 1, off := 0 })) (Tr.set m18 (n + 1 + 1) (AObj.cells none 56 1 [Value.pointer (some { block := n, off := 0 })])) (n + 1 + 1 + 1)
                                          else Q (Value.pointer (some { block := n + 1, off := 0 })) (Tr.set m11 (n + 1) (AObj.cells none 56 1 [Value.pointer (some { block := n, off := 0 })])) (n + 1 + 1)) := by kernel_rfl

/- 16 leafmesh/leafmeshkit.Pick -/
theorem d12x16 (m : Mem) (n : Nat) (Q : Value → Mem → Nat → Prop) (x : Int) (n' : Int) :
    Xc Try.prog d12xcfg 400 16 [Value.int IntKind.i64 x, Value.int IntKind.i64 n'] m n Q =
    (n' ≠ 0 ∧ bif decide (x.tmod n' < 0) then Q (Value.int IntKind.i64 (IntKind.i64.wrap (x.tmod n' + n'))) m n else Q (Value.int IntKind.i64 (x.tmod n')) m n) := by kernel_rfl

/- 17 leafmesh/leafmeshlaw12.ticks -/
theorem d12x17 (m : Mem) (n : Nat) (Q : Value → Mem → Nat → Prop) (w : Nat) (from' : Int) (heard_a : Option Addr) (heard_l : Nat) (heard_c : Nat) :
    Xc Try.prog d12xcfg 400 17 [Value.pointer (some { block := w, off := 0 }), Value.int IntKind.i64 from', Value.slice heard_a heard_l heard_c] m n Q =
    (W Try.prog
  { fn := 17, nt := 49, slots := [(0, Value.pointer (some { block := w, off := 0 })), (1, Value.int IntKind.i64 from'), (2, Value.slice heard_a heard_l heard_c), (8, Value.slice none 0 0), (9, Value.int IntKind.i64 0)],
    todo := pt Try.prog 17 [1, 1, 0, 1, 0, 0] }
  m n Q) := by kernel_rfl

theorem d12x17k0 (m : Mem) (n : Nat) (Q : Value → Mem → Nat → Prop) (w : Nat) (from' : Int) (heard_a : Option Addr) (heard_l : Nat) (heard_c : Nat) (out'_a : Option Addr) (out'_l : Nat) (out'_c : Nat) (i : Int) :
    xF (evX Try.prog d12xcfg 400)
  { fn := 17, nt := 49, slots := [(0, Value.pointer (some { block := w, off := 0 })), (1, Value.int IntKind.i64 from'), (2, Value.slice heard_a heard_l heard_c), (8, Value.slice out'_a out'_l out'_c), (9, Value.int IntKind.i64 i)],
    todo := pt Try.prog 17 [1, 1, 0, 1, 0, 0] }
  m n Q =
    (bif decide (i < (↑heard_l : Int)) then
  Wc Try.prog 19 [Value.pointer (some { block := w, off := 0 })] m n fun (v0 : Value) (m1 : Mem) (k2 : Nat) =>
    ∃ (b3 : Bool),
      v0 = Value.bool b3 ∧
        Later
          (elimA heard_a False fun (k4 k5 : Nat) (p6 : Option Nat) =>
            (0 ≤ i ∧ i < (↑heard_l : Int) ∧ liveAt m1 k4 = true ∧ (p6 ≠ none → 0 < heard_c)) ∧
              ∃ (b7 : Bool),
                rd m1 k4 (offOf k5 p6 + i.toNat * 1) = some (Value.bool b7) ∧
                  Wc Try.prog 11 [Value.pointer (some { block := w, off := 0 }), Value.int IntKind.i64 (IntKind.i64.wrap (from' + i)), Value.bool b7] m1 k2 fun (v8 : Value) (m9 : Mem) (k10 : Nat) =>
                    ∃ (b11 : Bool),
                      ∃ (x12 : Int),
                        v8 = Value.tuple { toList := [Value.bool b11, Value.int IntKind.i64 x12] } ∧
                          Later
                            (bif x12 != 0 then Q (Value.tuple { toList := [Value.slice none 0 0, Value.bool false] }) m9 k10
                            else
                              Wc Try.prog 19 [Value.pointer (some { block := w, off := 0 })] m9 k10 fun (v13 : Value) (m14 : Mem) (k15 : Nat) =>
                                ∃ (b16 : Bool),
                                  v13 = Value.bool b16 ∧
                                    Later
                                      (bif !b11 == !b16 == b3 then Q (Value.tuple { toList := [Value.slice none 0 0, Value.bool false] }) m14 k15
                                      else
                                        Wc Try.prog 19 [Value.pointer (some { block := w, off := 0 })] m14 k15 fun (v17 : Value) (m18 : Mem) (k19 : Nat) =>
                                          ∃ (b20 : Bool),
                                            v17 = Value.bool b20 ∧
                                              Later
                                                (∃ (p21 : Option Addr),
                                                  ∃ (k22 : Nat),
                                                    ∃ (k23 : Nat),
                                                      ∃ (m24 : Mem),
                                                        ∃ (k25 : Nat),
                                                          appendA Try.prog (Tr.set m18 k19 (AObj.cells none 4 1 [Value.bool b20])) (k19 + 1) 27 27 (Value.slice out'_a out'_l out'_c) (Value.slice (some { block := k19, off := 0 }) 1 1) =
                                                              Eff.val (Value.slice p21 k22 k23) m24 k25 ∧
                                                            W Try.prog
                                                              { fn := 17, nt := 49,
                                                                slots :=
                                                                  [(0, Value.pointer (some { block := w, off := 0 })), (1, Value.int IntKind.i64 from'), (2, Value.slice heard_a heard_l heard_c), (8, Value.slice p21 k22 k23),
                                                                    (9, Value.int IntKind.i64 (IntKind.i64.wrap (i + 1)))],
                                                                todo := pt Try.prog 17 [1, 1, 0, 1, 0, 0] }
                                                              m24 k25 Q))))
else Q (Value.tuple { toList := [Value.slice out'_a out'_l out'_c, Value.bool true] }) m n) := by kernel_rfl

/- 18 leafmesh/leafmeshkit.Own[bool] -/
theorem d12x18 (m : Mem) (n : Nat) (Q : Value → Mem → Nat → Prop) (l_a : Option Addr) (l_l : Nat) (l_c : Nat) :
    Xc Try.prog d12xcfg 400 18 [Value.slice l_a l_l l_c] m n Q =
    (∃ (p0 : Option Addr),
  ∃ (k1 : Nat),
    ∃ (k2 : Nat),
      ∃ (m3 : Mem), ∃ (k4 : Nat), appendA Try.prog (Tr.set m n (AObj.cells none 4 1 [])) (n + 1) 27 27 (Value.slice (some { block := n, off := 0 }) 0 0) (Value.slice l_a l_l l_c) = Eff.val (Value.slice p0 k1 k2) m3 k4 ∧ Q (Value.slice p0 k1 k2) m3 k4) := by kernel_rfl

/- 20 leafmesh/leafmeshkit.Same[bool] -/
theorem d12x20 (m : Mem) (n : Nat) (Q : Value → Mem → Nat → Prop) (a_a : Option Addr) (a_l : Nat) (a_c : Nat) (b_a : Option Addr) (b_l : Nat) (b_c : Nat) :
    Xc Try.prog d12xcfg 400 20 [Value.slice a_a a_l a_c, Value.slice b_a b_l b_c] m n Q =
    (bif (↑a_l : Int) != (↑b_l : Int) then Q (Value.bool false) m n
else W Try.prog { fn := 20, nt := 26, slots := [(0, Value.slice a_a a_l a_c), (1, Value.slice b_a b_l b_c), (5, Value.int IntKind.i64 0)], todo := pt Try.prog 20 [1, 1, 0, 1, 0, 0] } m n Q) := by kernel_rfl

theorem d12x20k0 (m : Mem) (n : Nat) (Q : Value → Mem → Nat → Prop) (a_a : Option Addr) (a_l : Nat) (a_c : Nat) (b_a : Option Addr) (b_l : Nat) (b_c : Nat) (i : Int) :
    xF (evX Try.prog d12xcfg 400) { fn := 20, nt := 26, slots := [(0, Value.slice a_a a_l a_c), (1, Value.slice b_a b_l b_c), (5, Value.int IntKind.i64 i)], todo := pt Try.prog 20 [1, 1, 0, 1, 0, 0] } m n Q =
    (bif decide (i < (↑a_l : Int)) then
  elimA a_a False fun (k0 k1 : Nat) (p2 : Option Nat) =>
    (0 ≤ i ∧ i < (↑a_l : Int) ∧ liveAt m k0 = true ∧ (p2 ≠ none → 0 < a_c)) ∧
      ∃ (b3 : Bool),
        rd m k0 (offOf k1 p2 + i.toNat * 1) = some (Value.bool b3) ∧
          elimA b_a False fun (k4 k5 : Nat) (p6 : Option Nat) =>
            (0 ≤ i ∧ i < (↑b_l : Int) ∧ liveAt m k4 = true ∧ (p6 ≠ none → 0 < b_c)) ∧
              ∃ (b7 : Bool),
                rd m k4 (offOf k5 p6 + i.toNat * 1) = some (Value.bool b7) ∧
                  bif !b3 == b7 then Q (Value.bool false) m (n + 9)
                  else W Try.prog { fn := 20, nt := 26, slots := [(0, Value.slice a_a a_l a_c), (1, Value.slice b_a b_l b_c), (5, Value.int IntKind.i64 (IntKind.i64.wrap (i + 1)))], todo := pt Try.prog 20 [1, 1, 0, 1, 0, 0] } m (n + 9) Q
else Q (Value.bool true) m n) := by kernel_rfl

/- 22 leafmesh/leafmeshkit.Has[bool] -/
theorem d12x22 (m : Mem) (n : Nat) (Q : Value → Mem → Nat → Prop) (l_a : Option Addr) (l_l : Nat) (l_c : Nat) (x : Bool) :
    Xc Try.prog d12xcfg 400 22 [Value.slice l_a l_l l_c, Value.bool x] m n Q =
    (W Try.prog { fn := 22, nt := 18, slots := [(0, Value.slice l_a l_l l_c), (1, Value.bool x), (5, Value.int IntKind.i64 0)], todo := pt Try.prog 22 [1, 0, 1, 0, 0] } m n Q) := by kernel_rfl

theorem d12x22k0 (m : Mem) (n : Nat) (Q : Value → Mem → Nat → Prop) (l_a : Option Addr) (l_l : Nat) (l_c : Nat) (x : Bool) (i : Int) :
    xF (evX Try.prog d12xcfg 400) { fn := 22, nt := 18, slots := [(0, Value.slice l_a l_l l_c), (1, Value.bool x), (5, Value.int IntKind.i64 i)], todo := pt Try.prog 22 [1, 0, 1, 0, 0] } m n Q =
    (bif decide (i < (↑l_l : Int)) then
  elimA l_a False fun (k0 k1 : Nat) (p2 : Option Nat) =>
    (0 ≤ i ∧ i < (↑l_l : Int) ∧ liveAt m k0 = true ∧ (p2 ≠ none → 0 < l_c)) ∧
      ∃ (b3 : Bool),
        rd m k0 (offOf k1 p2 + i.toNat * 1) = some (Value.bool b3) ∧
          bif b3 == x then Q (Value.bool true) m n else W Try.prog { fn := 22, nt := 18, slots := [(0, Value.slice l_a l_l l_c), (1, Value.bool x), (5, Value.int IntKind.i64 (IntKind.i64.wrap (i + 1)))], todo := pt Try.prog 22 [1, 0, 1, 0, 0] } m n Q
else Q (Value.bool false) m n) := by kernel_rfl

/- 4 leafmesh/leafmeshlaw12.DetectRuns -/
theorem d12x4 (m : Mem) (n : Nat) (Q : Value → Mem → Nat → Prop) (multiplier : Int) (heard_a : Option Addr) (heard_l : Nat) (heard_c : Nat) (from' : Int) :
    Xc Try.prog d12xcfg 400 4 [Value.int IntKind.i64 multiplier, Value.slice heard_a heard_l heard_c, Value.int IntKind.i64 from'] m n Q =
    (Wc Try.prog 3 [] m n fun (v0 : Value) (m1 : Mem) (k2 : Nat) =>
  ∃ (b3 : Bool),
    v0 = Value.bool b3 ∧
      Later
        (bif decide ((↑heard_l : Int) > 200) then Q (Value.bool b3) m1 k2
        else
          Wc Try.prog 16 [Value.int IntKind.i64 multiplier, Value.int IntKind.i64 8] m1 k2 fun (v4 : Value) (m5 : Mem) (k6 : Nat) =>
            ∃ (x7 : Int),
              v4 = Value.int IntKind.i64 x7 ∧
                Later
                  (Wc Try.prog 16 [Value.int IntKind.i64 from', Value.int IntKind.i64 1000] m5 k6 fun (v8 : Value) (m9 : Mem) (k10 : Nat) =>
                    ∃ (x11 : Int),
                      v8 = Value.int IntKind.i64 x11 ∧
                        Later
                          (Wc Try.prog 9 [Value.int IntKind.i64 (IntKind.i64.wrap (1 + x7))] m9 k10 fun (v12 : Value) (m13 : Mem) (k14 : Nat) =>
                            ∃ (p15 : Option Addr),
                              ∃ (x16 : Int),
                                v12 = Value.tuple { toList := [Value.pointer p15, Value.int IntKind.i64 x16] } ∧
                                  Later
                                    (bif x16 != 0 then Q (Value.bool false) m13 k14
                                    else
                                      bif p15.isNone then Q (Value.bool false) m13 k14
                                      else
                                        Wc Try.prog 17 [Value.pointer p15, Value.int IntKind.i64 x11, Value.slice heard_a heard_l heard_c] m13 k14 fun (v17 : Value) (m18 : Mem) (k19 : Nat) =>
                                          ∃ (p20 : Option Addr),
                                            ∃ (k21 : Nat),
                                              ∃ (k22 : Nat),
                                                ∃ (b23 : Bool),
                                                  v17 = Value.tuple { toList := [Value.slice p20 k21 k22, Value.bool b23] } ∧
                                                    Later
                                                      (bif !b23 then Q (Value.bool false) m18 k19
                                                      else
                                                        W Try.prog
                                                          { fn := 4, nt := 88,
                                                            slots := [(0, Value.int IntKind.i64 (IntKind.i64.wrap (1 + x7))), (1, Value.slice heard_a heard_l heard_c), (7, Value.bool b3), (10, Value.slice p20 k21 k22), (12, Value.int IntKind.i64 0)],
                                                            todo := pt Try.prog 4 [1, 1, 1, 1, 1, 1, 1, 1, 1, 0, 1, 0, 0] }
                                                          m18 k19 Q)))))) := by kernel_rfl

theorem d12x4k0 (m : Mem) (n : Nat) (Q : Value → Mem → Nat → Prop) (heard_a : Option Addr) (heard_l : Nat) (heard_c : Nat) (multiplier_1 : Int) (ok : Bool) (up_a : Option Addr) (up_l : Nat) (up_c : Nat) (i : Int) :
    xF (evX Try.prog d12xcfg 400)
  { fn := 4, nt := 88, slots := [(0, Value.int IntKind.i64 multiplier_1), (1, Value.slice heard_a heard_l heard_c), (7, Value.bool ok), (10, Value.slice up_a up_l up_c), (12, Value.int IntKind.i64 i)],
    todo := pt Try.prog 4 [1, 1, 1, 1, 1, 1, 1, 1, 1, 0, 1, 0, 0] }
  m n Q =
    (bif decide (i < (↑heard_l : Int)) then
  W Try.prog
    { fn := 4, nt := 88,
      slots :=
        [(0, Value.int IntKind.i64 multiplier_1), (1, Value.slice heard_a heard_l heard_c), (7, Value.bool ok), (10, Value.slice up_a up_l up_c), (12, Value.int IntKind.i64 i), (13, Value.bool false), (14, Value.int IntKind.i64 0),
          (15, Value.int IntKind.i64 0)],
      todo := pt Try.prog 4 [1, 1, 1, 1, 1, 1, 1, 1, 1, 0, 1, 0, 0, 1, 0, 0, 1, 0, 1, 0, 0] }
    m n Q
else Q (Value.bool ok) m n) := by kernel_rfl

theorem d12x4k1 (m : Mem) (n : Nat) (Q : Value → Mem → Nat → Prop) (heard_a : Option Addr) (heard_l : Nat) (heard_c : Nat) (multiplier_1 : Int) (ok : Bool) (up_a : Option Addr) (up_l : Nat) (up_c : Nat) (i : Int) (want : Bool) (silent : Int) (k : Int) :
    xF (evX Try.prog d12xcfg 400)
  { fn := 4, nt := 88,
    slots :=
      [(0, Value.int IntKind.i64 multiplier_1), (1, Value.slice heard_a heard_l heard_c), (7, Value.bool ok), (10, Value.slice up_a up_l up_c), (12, Value.int IntKind.i64 i), (13, Value.bool want), (14, Value.int IntKind.i64 silent),
        (15, Value.int IntKind.i64 k)],
    todo := pt Try.prog 4 [1, 1, 1, 1, 1, 1, 1, 1, 1, 0, 1, 0, 0, 1, 0, 0, 1, 0, 1, 0, 0] }
  m n Q =
    (bif decide (k ≤ i) then
  elimA heard_a False fun (k0 k1 : Nat) (p2 : Option Nat) =>
    (0 ≤ k ∧ k < (↑heard_l : Int) ∧ liveAt m k0 = true ∧ (p2 ≠ none → 0 < heard_c)) ∧
      ∃ (b3 : Bool),
        rd m k0 (offOf k1 p2 + k.toNat * 1) = some (Value.bool b3) ∧
          bif b3 then
            bif decide (0 ≥ multiplier_1) then
              bif decide (k > 0) then
                elimA heard_a False fun (k4 k5 : Nat) (p6 : Option Nat) =>
                  (0 ≤ k ∧ k < (↑heard_l : Int) ∧ liveAt m k4 = true ∧ (p6 ≠ none → 0 < heard_c)) ∧
                    ∃ (b7 : Bool),
                      rd m k4 (offOf k5 p6 + k.toNat * 1) = some (Value.bool b7) ∧
                        bif b7 then
                          elimA heard_a False fun (k8 k9 : Nat) (p10 : Option Nat) =>
                            (0 ≤ IntKind.i64.wrap (k - 1) ∧ IntKind.i64.wrap (k - 1) < (↑heard_l : Int) ∧ liveAt m k8 = true ∧ (p10 ≠ none → 0 < heard_c)) ∧
                              ∃ (b11 : Bool),
                                rd m k8 (offOf k9 p10 + (IntKind.i64.wrap (k - 1)).toNat * 1) = some (Value.bool b11) ∧
                                  bif b11 then
                                    W Try.prog
                                      { fn := 4, nt := 88,
                                        slots :=
                                          [(0, Value.int IntKind.i64 multiplier_1), (1, Value.slice heard_a heard_l heard_c), (7, Value.bool ok), (10, Value.slice up_a up_l up_c), (12, Value.int IntKind.i64 i), (13, Value.bool true),
                                            (14, Value.int IntKind.i64 0), (15, Value.int IntKind.i64 (IntKind.i64.wrap (k + 1)))],
                                        todo := pt Try.prog 4 [1, 1, 1, 1, 1, 1, 1, 1, 1, 0, 1, 0, 0, 1, 0, 0, 1, 0, 1, 0, 0] }
                                      m n Q
                                  else
                                    W Try.prog
                                      { fn := 4, nt := 88,
                                        slots :=
                                          [(0, Value.int IntKind.i64 multiplier_1), (1, Value.slice heard_a heard_l heard_c), (7, Value.bool ok), (10, Value.slice up_a up_l up_c), (12, Value.int IntKind.i64 i), (13, Value.bool false),
                                            (14, Value.int IntKind.i64 0), (15, Value.int IntKind.i64 (IntKind.i64.wrap (k + 1)))],
                                        todo := pt Try.prog 4 [1, 1, 1, 1, 1, 1, 1, 1, 1, 0, 1, 0, 0, 1, 0, 0, 1, 0, 1, 0, 0] }
                                      m n Q
                        else
                          W Try.prog
                            { fn := 4, nt := 88,
                              slots :=
                                [(0, Value.int IntKind.i64 multiplier_1), (1, Value.slice heard_a heard_l heard_c), (7, Value.bool ok), (10, Value.slice up_a up_l up_c), (12, Value.int IntKind.i64 i), (13, Value.bool false),
                                  (14, Value.int IntKind.i64 0), (15, Value.int IntKind.i64 (IntKind.i64.wrap (k + 1)))],
                              todo := pt Try.prog 4 [1, 1, 1, 1, 1, 1, 1, 1, 1, 0, 1, 0, 0, 1, 0, 0, 1, 0, 1, 0, 0] }
                            m n Q
              else
                W Try.prog
                  { fn := 4, nt := 88,
                    slots :=
                      [(0, Value.int IntKind.i64 multiplier_1), (1, Value.slice heard_a heard_l heard_c), (7, Value.bool ok), (10, Value.slice up_a up_l up_c), (12, Value.int IntKind.i64 i), (13, Value.bool false), (14, Value.int IntKind.i64 0),
                        (15, Value.int IntKind.i64 (IntKind.i64.wrap (k + 1)))],
                    todo := pt Try.prog 4 [1, 1, 1, 1, 1, 1, 1, 1, 1, 0, 1, 0, 0, 1, 0, 0, 1, 0, 1, 0, 0] }
                  m n Q
            else
              bif decide (k > 0) then
                elimA heard_a False fun (k12 k13 : Nat) (p14 : Option Nat) =>
                  (0 ≤ k ∧ k < (↑heard_l : Int) ∧ liveAt m k12 = true ∧ (p14 ≠ none → 0 < heard_c)) ∧
                    ∃ (b15 : Bool),
                      rd m k12 (offOf k13 p14 + k.toNat * 1) = some (Value.bool b15) ∧
                        bif b15 then
                          elimA heard_a False fun (k16 k17 : Nat) (p18 : Option Nat) =>
                            (0 ≤ IntKind.i64.wrap (k - 1) ∧ IntKind.i64.wrap (k - 1) < (↑heard_l : Int) ∧ liveAt m k16 = true ∧ (p18 ≠ none → 0 < heard_c)) ∧
                              ∃ (b19 : Bool),
                                rd m k16 (offOf k17 p18 + (IntKind.i64.wrap (k - 1)).toNat * 1) = some (Value.bool b19) ∧
                                  bif b19 then
                                    W Try.prog
                                      { fn := 4, nt := 88,
                                        slots :=
                                          [(0, Value.int IntKind.i64 multiplier_1), (1, Value.slice heard_a heard_l heard_c), (7, Value.bool ok), (10, Value.slice up_a up_l up_c), (12, Value.int IntKind.i64 i), (13, Value.bool true),
                                            (14, Value.int IntKind.i64 0), (15, Value.int IntKind.i64 (IntKind.i64.wrap (k + 1)))],
                                        todo := pt Try.prog 4 [1, 1, 1, 1, 1, 1, 1, 1, 1, 0, 1, 0, 0, 1, 0, 0, 1, 0, 1, 0, 0] }
                                      m n Q
                                  else
                                    W Try.prog
                                      { fn := 4, nt := 88,
                                        slots :=
                                          [(0, Value.int IntKind.i64 multiplier_1), (1, Value.slice heard_a heard_l heard_c), (7, Value.bool ok), (10, Value.slice up_a up_l up_c), (12, Value.int IntKind.i64 i), (13, Value.bool want),
                                            (14, Value.int IntKind.i64 0), (15, Value.int IntKind.i64 (IntKind.i64.wrap (k + 1)))],
                                        todo := pt Try.prog 4 [1, 1, 1, 1, 1, 1, 1, 1, 1, 0, 1, 0, 0, 1, 0, 0, 1, 0, 1, 0, 0] }
                                      m n Q
                        else
                          W Try.prog
                            { fn := 4, nt := 88,
                              slots :=
                                [(0, Value.int IntKind.i64 multiplier_1), (1, Value.slice heard_a heard_l heard_c), (7, Value.bool ok), (10, Value.slice up_a up_l up_c), (12, Value.int IntKind.i64 i), (13, Value.bool want),
                                  (14, Value.int IntKind.i64 0), (15, Value.int IntKind.i64 (IntKind.i64.wrap (k + 1)))],
                              todo := pt Try.prog 4 [1, 1, 1, 1, 1, 1, 1, 1, 1, 0, 1, 0, 0, 1, 0, 0, 1, 0, 1, 0, 0] }
                            m n Q
              else
                W Try.prog
                  { fn := 4, nt := 88,
                    slots :=
                      [(0, Value.int IntKind.i64 multiplier_1), (1, Value.slice heard_a heard_l heard_c), (7, Value.bool ok), (10, Value.slice up_a up_l up_c), (12, Value.int IntKind.i64 i), (13, Value.bool want), (14, Value.int IntKind.i64 0),
                        (15, Value.int IntKind.i64 (IntKind.i64.wrap (k + 1)))],
                    todo := pt Try.prog 4 [1, 1, 1, 1, 1, 1, 1, 1, 1, 0, 1, 0, 0, 1, 0, 0, 1, 0, 1, 0, 0] }
                  m n Q
          else
            bif decide (IntKind.i64.wrap (silent + 1) ≥ multiplier_1) then
              bif decide (k > 0) then
                elimA heard_a False fun (k20 k21 : Nat) (p22 : Option Nat) =>
                  (0 ≤ k ∧ k < (↑heard_l : Int) ∧ liveAt m k20 = true ∧ (p22 ≠ none → 0 < heard_c)) ∧
                    ∃ (b23 : Bool),
                      rd m k20 (offOf k21 p22 + k.toNat * 1) = some (Value.bool b23) ∧
                        bif b23 then
                          elimA heard_a False fun (k24 k25 : Nat) (p26 : Option Nat) =>
                            (0 ≤ IntKind.i64.wrap (k - 1) ∧ IntKind.i64.wrap (k - 1) < (↑heard_l : Int) ∧ liveAt m k24 = true ∧ (p26 ≠ none → 0 < heard_c)) ∧
                              ∃ (b27 : Bool),
                                rd m k24 (offOf k25 p26 + (IntKind.i64.wrap (k - 1)).toNat * 1) = some (Value.bool b27) ∧
                                  bif b27 then
                                    W Try.prog
                                      { fn := 4, nt := 88,
                                        slots :=
                                          [(0, Value.int IntKind.i64 multiplier_1), (1, Value.slice heard_a heard_l heard_c), (7, Value.bool ok), (10, Value.slice up_a up_l up_c), (12, Value.int IntKind.i64 i), (13, Value.bool true),
                                            (14, Value.int IntKind.i64 (IntKind.i64.wrap (silent + 1))), (15, Value.int IntKind.i64 (IntKind.i64.wrap (k + 1)))],
                                        todo := pt Try.prog 4 [1, 1, 1, 1, 1, 1, 1, 1, 1, 0, 1, 0, 0, 1, 0, 0, 1, 0, 1, 0, 0] }
                                      m n Q
                                  else
                                    W Try.prog
                                      { fn := 4, nt := 88,
                                        slots :=
                                          [(0, Value.int IntKind.i64 multiplier_1), (1, Value.slice heard_a heard_l heard_c), (7, Value.bool ok), (10, Value.slice up_a up_l up_c), (12, Value.int IntKind.i64 i), (13, Value.bool false),
                                            (14, Value.int IntKind.i64 (IntKind.i64.wrap (silent + 1))), (15, Value.int IntKind.i64 (IntKind.i64.wrap (k + 1)))],
                                        todo := pt Try.prog 4 [1, 1, 1, 1, 1, 1, 1, 1, 1, 0, 1, 0, 0, 1, 0, 0, 1, 0, 1, 0, 0] }
                                      m n Q
                        else
                          W Try.prog
                            { fn := 4, nt := 88,
                              slots :=
                                [(0, Value.int IntKind.i64 multiplier_1), (1, Value.slice heard_a heard_l heard_c), (7, Value.bool ok), (10, Value.slice up_a up_l up_c), (12, Value.int IntKind.i64 i), (13, Value.bool false),
                                  (14, Value.int IntKind.i64 (IntKind.i64.wrap (silent + 1))), (15, Value.int IntKind.i64 (IntKind.i64.wrap (k + 1)))],
                              todo := pt Try.prog 4 [1, 1, 1, 1, 1, 1, 1, 1, 1, 0, 1, 0, 0, 1, 0, 0, 1, 0, 1, 0, 0] }
                            m n Q
              else
                W Try.prog
                  { fn := 4, nt := 88,
                    slots :=
                      [(0, Value.int IntKind.i64 multiplier_1), (1, Value.slice heard_a heard_l heard_c), (7, Value.bool ok), (10, Value.slice up_a up_l up_c), (12, Value.int IntKind.i64 i), (13, Value.bool false),
                        (14, Value.int IntKind.i64 (IntKind.i64.wrap (silent + 1))), (15, Value.int IntKind.i64 (IntKind.i64.wrap (k + 1)))],
                    todo := pt Try.prog 4 [1, 1, 1, 1, 1, 1, 1, 1, 1, 0, 1, 0, 0, 1, 0, 0, 1, 0, 1, 0, 0] }
                  m n Q
            else
              bif decide (k > 0) then
                elimA heard_a False fun (k28 k29 : Nat) (p30 : Option Nat) =>
                  (0 ≤ k ∧ k < (↑heard_l : Int) ∧ liveAt m k28 = true ∧ (p30 ≠ none → 0 < heard_c)) ∧
                    ∃ (b31 : Bool),
                      rd m k28 (offOf k29 p30 + k.toNat * 1) = some (Value.bool b31) ∧
                        bif b31 then
                          elimA heard_a False fun (k32 k33 : Nat) (p34 : Option Nat) =>
                            (0 ≤ IntKind.i64.wrap (k - 1) ∧ IntKind.i64.wrap (k - 1) < (↑heard_l : Int) ∧ liveAt m k32 = true ∧ (p34 ≠ none → 0 < heard_c)) ∧
                              ∃ (b35 : Bool),
                                rd m k32 (offOf k33 p34 + (IntKind.i64.wrap (k - 1)).toNat * 1) = some (Value.bool b35) ∧
                                  bif b35 then
                                    W Try.prog
                                      { fn := 4, nt := 88,
                                        slots :=
                                          [(0, Value.int IntKind.i64 multiplier_1), (1, Value.slice heard_a heard_l heard_c), (7, Value.bool ok), (10, Value.slice up_a up_l up_c), (12, Value.int IntKind.i64 i), (13, Value.bool true),
                                            (14, Value.int IntKind.i64 (IntKind.i64.wrap (silent + 1))), (15, Value.int IntKind.i64 (IntKind.i64.wrap (k + 1)))],
                                        todo := pt Try.prog 4 [1, 1, 1, 1, 1, 1, 1, 1, 1, 0, 1, 0, 0, 1, 0, 0, 1, 0, 1, 0, 0] }
                                      m n Q
                                  else
                                    W Try.prog
                                      { fn := 4, nt := 88,
                                        slots :=
                                          [(0, Value.int IntKind.i64 multiplier_1), (1, Value.slice heard_a heard_l heard_c), (7, Value.bool ok), (10, Value.slice up_a up_l up_c), (12, Value.int IntKind.i64 i), (13, Value.bool want),
                                            (14, Value.int IntKind.i64 (IntKind.i64.wrap (silent + 1))), (15, Value.int IntKind.i64 (IntKind.i64.wrap (k + 1)))],
                                        todo := pt Try.prog 4 [1, 1, 1, 1, 1, 1, 1, 1, 1, 0, 1, 0, 0, 1, 0, 0, 1, 0, 1, 0, 0] }
                                      m n Q
                        else
                          W Try.prog
                            { fn := 4, nt := 88,
                              slots :=
                                [(0, Value.int IntKind.i64 multiplier_1), (1, Value.slice heard_a heard_l heard_c), (7, Value.bool ok), (10, Value.slice up_a up_l up_c), (12, Value.int IntKind.i64 i), (13, Value.bool want),
                                  (14, Value.int IntKind.i64 (IntKind.i64.wrap (silent + 1))), (15, Value.int IntKind.i64 (IntKind.i64.wrap (k + 1)))],
                              todo := pt Try.prog 4 [1, 1, 1, 1, 1, 1, 1, 1, 1, 0, 1, 0, 0, 1, 0, 0, 1, 0, 1, 0, 0] }
                            m n Q
              else
                W Try.prog
                  { fn := 4, nt := 88,
                    slots :=
                      [(0, Value.int IntKind.i64 multiplier_1), (1, Value.slice heard_a heard_l heard_c), (7, Value.bool ok), (10, Value.slice up_a up_l up_c), (12, Value.int IntKind.i64 i), (13, Value.bool want),
                        (14, Value.int IntKind.i64 (IntKind.i64.wrap (silent + 1))), (15, Value.int IntKind.i64 (IntKind.i64.wrap (k + 1)))],
                    todo := pt Try.prog 4 [1, 1, 1, 1, 1, 1, 1, 1, 1, 0, 1, 0, 0, 1, 0, 0, 1, 0, 1, 0, 0] }
                  m n Q
else
  elimA up_a False fun (k36 k37 : Nat) (p38 : Option Nat) =>
    (0 ≤ i ∧ i < (↑up_l : Int) ∧ liveAt m k36 = true ∧ (p38 ≠ none → 0 < up_c)) ∧
      ∃ (b39 : Bool),
        rd m k36 (offOf k37 p38 + i.toNat * 1) = some (Value.bool b39) ∧
          bif !b39 == want then Q (Value.bool false) m n
          else
            W Try.prog
              { fn := 4, nt := 88, slots := [(0, Value.int IntKind.i64 multiplier_1), (1, Value.slice heard_a heard_l heard_c), (7, Value.bool ok), (10, Value.slice up_a up_l up_c), (12, Value.int IntKind.i64 (IntKind.i64.wrap (i + 1)))],
                todo := pt Try.prog 4 [1, 1, 1, 1, 1, 1, 1, 1, 1, 0, 1, 0, 0] }
              m n Q) := by kernel_rfl

/- 5 leafmesh/leafmeshlaw12.DetectFails -/
theorem d12x5 (m : Mem) (n : Nat) (Q : Value → Mem → Nat → Prop) (multiplier : Int) (before_a : Option Addr) (before_l : Nat) (before_c : Nat) (from' : Int) :
    Xc Try.prog d12xcfg 400 5 [Value.int IntKind.i64 multiplier, Value.slice before_a before_l before_c, Value.int IntKind.i64 from'] m n Q =
    (Wc Try.prog 3 [] m n fun (v0 : Value) (m1 : Mem) (k2 : Nat) =>
  ∃ (b3 : Bool),
    v0 = Value.bool b3 ∧
      Later
        (bif decide ((↑before_l : Int) > 60) then Q (Value.bool b3) m1 k2
        else
          Wc Try.prog 16 [Value.int IntKind.i64 multiplier, Value.int IntKind.i64 60] m1 k2 fun (v4 : Value) (m5 : Mem) (k6 : Nat) =>
            ∃ (x7 : Int),
              v4 = Value.int IntKind.i64 x7 ∧
                Later
                  (Wc Try.prog 16 [Value.int IntKind.i64 from', Value.int IntKind.i64 1000] m5 k6 fun (v8 : Value) (m9 : Mem) (k10 : Nat) =>
                    ∃ (x11 : Int),
                      v8 = Value.int IntKind.i64 x11 ∧
                        Later
                          (Wc Try.prog 9 [Value.int IntKind.i64 (IntKind.i64.wrap (1 + x7))] m9 k10 fun (v12 : Value) (m13 : Mem) (k14 : Nat) =>
                            ∃ (p15 : Option Addr),
                              ∃ (x16 : Int),
                                v12 = Value.tuple { toList := [Value.pointer p15, Value.int IntKind.i64 x16] } ∧
                                  Later
                                    (bif x16 != 0 then Q (Value.bool false) m13 k14
                                    else
                                      bif p15.isNone then Q (Value.bool false) m13 k14
                                      else
                                        Wc Try.prog 18 [Value.slice before_a before_l before_c] m13 k14 fun (v17 : Value) (m18 : Mem) (k19 : Nat) =>
                                          ∃ (p20 : Option Addr),
                                            ∃ (k21 : Nat),
                                              ∃ (k22 : Nat),
                                                v17 = Value.slice p20 k21 k22 ∧
                                                  Later
                                                    (∃ (p23 : Option Addr),
                                                      ∃ (k24 : Nat),
                                                        ∃ (k25 : Nat),
                                                          ∃ (m26 : Mem),
                                                            ∃ (k27 : Nat),
                                                              appendA Try.prog (Tr.set m18 k19 (AObj.cells none 4 1 [Value.bool true, Value.bool true])) (k19 + 1) 27 27 (Value.slice p20 k21 k22) (Value.slice (some { block := k19, off := 0 }) 2 2) =
                                                                  Eff.val (Value.slice p23 k24 k25) m26 k27 ∧
                                                                Wc Try.prog 17 [Value.pointer p15, Value.int IntKind.i64 x11, Value.slice p23 k24 k25] m26 k27 fun (v28 : Value) (m29 : Mem) (k30 : Nat) =>
                                                                  ∃ (p31 : Option Addr),
                                                                    ∃ (k32 : Nat),
                                                                      ∃ (k33 : Nat),
                                                                        ∃ (b34 : Bool),
                                                                          v28 = Value.tuple { toList := [Value.slice p31 k32 k33, Value.bool b34] } ∧
                                                                            Later
                                                                              (bif !b34 then Q (Value.bool false) m29 k30
                                                                              else
                                                                                Wc Try.prog 19 [Value.pointer p15] m29 k30 fun (v35 : Value) (m36 : Mem) (k37 : Nat) =>
                                                                                  ∃ (b38 : Bool),
                                                                                    v35 = Value.bool b38 ∧
                                                                                      Later
                                                                                        (bif !b38 then Q (Value.bool false) m36 k37
                                                                                        else
                                                                                          Wc Try.prog 14 [Value.pointer p15] m36 k37 fun (v39 : Value) (m40 : Mem) (k41 : Nat) =>
                                                                                            ∃ (x42 : Int),
                                                                                              v39 = Value.int IntKind.i64 x42 ∧
                                                                                                Later
                                                                                                  (W Try.prog
                                                                                                    { fn := 5, nt := 121,
                                                                                                      slots :=
                                                                                                        [(0, Value.int IntKind.i64 (IntKind.i64.wrap (1 + x7))), (7, Value.bool b3), (8, Value.pointer p15),
                                                                                                          (12, Value.int IntKind.i64 (IntKind.i64.wrap (IntKind.i64.wrap (x11 + (↑before_l : Int)) + 2))), (13, Value.int IntKind.i64 x42),
                                                                                                          (14, Value.int IntKind.i64 1)],
                                                                                                      todo := pt Try.prog 5 [1, 1, 1, 1, 1, 1, 1, 1, 1, 1, 1, 0, 1, 0, 0] }
                                                                                                    m40 k41 Q))))))))) := by kernel_rfl

theorem d12x5k0 (m : Mem) (n : Nat) (Q : Value → Mem → Nat → Prop) (multiplier_1 : Int) (ok : Bool) (w : Option Addr) (now : Int) (many : Int) (i : Int) :
    xF (evX Try.prog d12xcfg 400)
  { fn := 5, nt := 121, slots := [(0, Value.int IntKind.i64 multiplier_1), (7, Value.bool ok), (8, Value.pointer w), (12, Value.int IntKind.i64 now), (13, Value.int IntKind.i64 many), (14, Value.int IntKind.i64 i)],
    todo := pt Try.prog 5 [1, 1, 1, 1, 1, 1, 1, 1, 1, 1, 1, 0, 1, 0, 0] }
  m n Q =
    (bif decide (i ≤ multiplier_1) then
  Wc Try.prog 11 [Value.pointer w, Value.int IntKind.i64 now, Value.bool false] m n fun (v0 : Value) (m1 : Mem) (k2 : Nat) =>
    ∃ (b3 : Bool),
      ∃ (x4 : Int),
        v0 = Value.tuple { toList := [Value.bool b3, Value.int IntKind.i64 x4] } ∧
          Later
            (bif x4 != 0 then Q (Value.bool false) m1 k2
            else
              bif !b3 == (i == multiplier_1) then Q (Value.bool false) m1 k2
              else
                Wc Try.prog 19 [Value.pointer w] m1 k2 fun (v5 : Value) (m6 : Mem) (k7 : Nat) =>
                  ∃ (b8 : Bool),
                    v5 = Value.bool b8 ∧
                      Later
                        (bif b8 == b3 then Q (Value.bool false) m6 k7
                        else
                          W Try.prog
                            { fn := 5, nt := 121,
                              slots :=
                                [(0, Value.int IntKind.i64 multiplier_1), (7, Value.bool ok), (8, Value.pointer w), (12, Value.int IntKind.i64 (IntKind.i64.wrap (now + 1))), (13, Value.int IntKind.i64 many),
                                  (14, Value.int IntKind.i64 (IntKind.i64.wrap (i + 1)))],
                              todo := pt Try.prog 5 [1, 1, 1, 1, 1, 1, 1, 1, 1, 1, 1, 0, 1, 0, 0] }
                            m6 k7 Q))
else
  Wc Try.prog 17 [Value.pointer w, Value.int IntKind.i64 now, Value.slice (some { block := n, off := 0 }) 2 2] (Tr.set m n (AObj.cells none 4 1 [Value.bool true, Value.bool true])) (n + 1) fun (v9 : Value) (m10 : Mem) (k11 : Nat) =>
    ∃ (p12 : Option Addr),
      ∃ (k13 : Nat),
        ∃ (k14 : Nat),
          ∃ (b15 : Bool),
            v9 = Value.tuple { toList := [Value.slice p12 k13 k14, Value.bool b15] } ∧
              Later
                (bif ok then
                  bif b15 then
                    Wc Try.prog 20 [Value.slice p12 k13 k14, Value.slice (some { block := k11, off := 0 }) 2 2] (Tr.set m10 k11 (AObj.cells none 4 1 [Value.bool false, Value.bool true])) (k11 + 1) fun (v16 : Value) (m17 : Mem) (k18 : Nat) =>
                      ∃ (b19 : Bool),
                        v16 = Value.bool b19 ∧
                          Later
                            (bif b19 then
                              Wc Try.prog 14 [Value.pointer w] m17 k18 fun (v20 : Value) (m21 : Mem) (k22 : Nat) =>
                                ∃ (x23 : Int),
                                  v20 = Value.int IntKind.i64 x23 ∧
                                    Later
                                      (bif x23 == IntKind.i64.wrap (many + 2) then
                                        Wc Try.prog 21 [Value.pointer w] m21 k22 fun (v24 : Value) (m25 : Mem) (k26 : Nat) => ∃ (x27 : Int), v24 = Value.int IntKind.i64 x27 ∧ Later (Q (Value.bool (x27 == IntKind.i64.wrap (now + 1))) m25 k26)
                                      else Q (Value.bool false) m21 k22)
                            else Q (Value.bool false) m17 k18)
                  else Q (Value.bool false) m10 k11
                else Q (Value.bool false) m10 k11)) := by kernel_rfl

/- 6 leafmesh/leafmeshlaw12.DetectStays -/
theorem d12x6 (m : Mem) (n : Nat) (Q : Value → Mem → Nat → Prop) (multiplier : Int) (gaps_a : Option Addr) (gaps_l : Nat) (gaps_c : Nat) :
    Xc Try.prog d12xcfg 400 6 [Value.int IntKind.i64 multiplier, Value.slice gaps_a gaps_l gaps_c] m n Q =
    (Wc Try.prog 3 [] m n fun (v0 : Value) (m1 : Mem) (k2 : Nat) =>
  ∃ (b3 : Bool),
    v0 = Value.bool b3 ∧
      Later
        (bif decide ((↑gaps_l : Int) > 60) then Q (Value.bool b3) m1 k2
        else
          Wc Try.prog 16 [Value.int IntKind.i64 multiplier, Value.int IntKind.i64 20] m1 k2 fun (v4 : Value) (m5 : Mem) (k6 : Nat) =>
            ∃ (x7 : Int),
              v4 = Value.int IntKind.i64 x7 ∧
                Later
                  (Wc Try.prog 9 [Value.int IntKind.i64 (IntKind.i64.wrap (1 + x7))] m5 k6 fun (v8 : Value) (m9 : Mem) (k10 : Nat) =>
                    ∃ (p11 : Option Addr),
                      ∃ (x12 : Int),
                        v8 = Value.tuple { toList := [Value.pointer p11, Value.int IntKind.i64 x12] } ∧
                          Later
                            (bif x12 != 0 then Q (Value.bool false) m9 k10
                            else
                              bif p11.isNone then Q (Value.bool false) m9 k10
                              else
                                Wc Try.prog 17 [Value.pointer p11, Value.int IntKind.i64 0, Value.slice (some { block := k10, off := 0 }) 2 2] (Tr.set m9 k10 (AObj.cells none 4 1 [Value.bool true, Value.bool true])) (k10 + 1)
                                  fun (v13 : Value) (m14 : Mem) (k15 : Nat) =>
                                  ∃ (p16 : Option Addr),
                                    ∃ (k17 : Nat),
                                      ∃ (k18 : Nat),
                                        ∃ (b19 : Bool),
                                          v13 = Value.tuple { toList := [Value.slice p16 k17 k18, Value.bool b19] } ∧
                                            Later
                                              (W Try.prog
                                                { fn := 6, nt := 93,
                                                  slots :=
                                                    [(0, Value.int IntKind.i64 (IntKind.i64.wrap (1 + x7))), (1, Value.slice gaps_a gaps_l gaps_c), (5, Value.bool b3), (6, Value.pointer p11), (9, Value.bool b19), (10, Value.int IntKind.i64 2),
                                                      (11, Value.int IntKind.i64 0)],
                                                  todo := pt Try.prog 6 [1, 1, 1, 1, 1, 1, 1, 1, 0, 1, 0, 0] }
                                                m14 k15 Q))))) := by kernel_rfl

theorem d12x6k0 (m : Mem) (n : Nat) (Q : Value → Mem → Nat → Prop) (gaps_a : Option Addr) (gaps_l : Nat) (gaps_c : Nat) (multiplier_1 : Int) (ok : Bool) (w : Option Addr) (is : Bool) (now : Int) (i : Int) :
    xF (evX Try.prog d12xcfg 400)
  { fn := 6, nt := 93, slots := [(0, Value.int IntKind.i64 multiplier_1), (1, Value.slice gaps_a gaps_l gaps_c), (5, Value.bool ok), (6, Value.pointer w), (9, Value.bool is), (10, Value.int IntKind.i64 now), (11, Value.int IntKind.i64 i)],
    todo := pt Try.prog 6 [1, 1, 1, 1, 1, 1, 1, 1, 0, 1, 0, 0] }
  m n Q =
    (bif decide (i < (↑gaps_l : Int)) then
  bif is then
    elimA gaps_a False fun (k0 k1 : Nat) (p2 : Option Nat) =>
      (0 ≤ i ∧ i < (↑gaps_l : Int) ∧ liveAt m k0 = true ∧ (p2 ≠ none → 0 < gaps_c)) ∧
        ∃ (x3 : Int),
          rd m k0 (offOf k1 p2 + i.toNat * 1) = some (Value.int IntKind.i64 x3) ∧
            Wc Try.prog 16 [Value.int IntKind.i64 x3, Value.int IntKind.i64 multiplier_1] m n fun (v4 : Value) (m5 : Mem) (k6 : Nat) =>
              ∃ (x7 : Int),
                v4 = Value.int IntKind.i64 x7 ∧
                  Later
                    ((0 ≤ x7 ∧ x7 ≤ x7 ∧ 2 * x7 ≤ 281474976710656) ∧
                      ∃ (p8 : Option Addr),
                        ∃ (k9 : Nat),
                          ∃ (k10 : Nat),
                            ∃ (m11 : Mem),
                              ∃ (k12 : Nat),
                                appendA Try.prog ((Tr.set m5 k6 (AObj.cells none 4 1 (List.replicate x7.toNat [Value.bool false]).flatten)).set (k6 + 1) (AObj.cells none 4 1 [Value.bool true])) (k6 + 1 + 1) 27 27
                                      (Value.slice (some { block := k6, off := 0 }) x7.toNat x7.toNat) (Value.slice (some { block := k6 + 1, off := 0 }) 1 1) =
                                    Eff.val (Value.slice p8 k9 k10) m11 k12 ∧
                                  Wc Try.prog 17 [Value.pointer w, Value.int IntKind.i64 now, Value.slice p8 k9 k10] m11 k12 fun (v13 : Value) (m14 : Mem) (k15 : Nat) =>
                                    ∃ (p16 : Option Addr),
                                      ∃ (k17 : Nat),
                                        ∃ (k18 : Nat),
                                          ∃ (b19 : Bool),
                                            v13 = Value.tuple { toList := [Value.slice p16 k17 k18, Value.bool b19] } ∧
                                              Later
                                                (bif b19 then
                                                  Wc Try.prog 22 [Value.slice p16 k17 k18, Value.bool false] m14 k15 fun (v20 : Value) (m21 : Mem) (k22 : Nat) =>
                                                    ∃ (b23 : Bool),
                                                      v20 = Value.bool b23 ∧
                                                        Later
                                                          (W Try.prog
                                                            { fn := 6, nt := 93,
                                                              slots :=
                                                                [(0, Value.int IntKind.i64 multiplier_1), (1, Value.slice gaps_a gaps_l gaps_c), (5, Value.bool ok), (6, Value.pointer w), (9, Value.bool !b23),
                                                                  (10, Value.int IntKind.i64 (IntKind.i64.wrap (IntKind.i64.wrap (now + x7) + 1))), (11, Value.int IntKind.i64 (IntKind.i64.wrap (i + 1)))],
                                                              todo := pt Try.prog 6 [1, 1, 1, 1, 1, 1, 1, 1, 0, 1, 0, 0] }
                                                            m21 k22 Q)
                                                else
                                                  W Try.prog
                                                    { fn := 6, nt := 93,
                                                      slots :=
                                                        [(0, Value.int IntKind.i64 multiplier_1), (1, Value.slice gaps_a gaps_l gaps_c), (5, Value.bool ok), (6, Value.pointer w), (9, Value.bool false),
                                                          (10, Value.int IntKind.i64 (IntKind.i64.wrap (IntKind.i64.wrap (now + x7) + 1))), (11, Value.int IntKind.i64 (IntKind.i64.wrap (i + 1)))],
                                                      todo := pt Try.prog 6 [1, 1, 1, 1, 1, 1, 1, 1, 0, 1, 0, 0] }
                                                    m14 k15 Q))
  else
    bif ok then
      bif is then
        Wc Try.prog 19 [Value.pointer w] m n fun (v24 : Value) (m25 : Mem) (k26 : Nat) =>
          ∃ (b27 : Bool),
            v24 = Value.bool b27 ∧
              Later
                (bif b27 then
                  Wc Try.prog 14 [Value.pointer w] m25 k26 fun (v28 : Value) (m29 : Mem) (k30 : Nat) =>
                    ∃ (x31 : Int),
                      v28 = Value.int IntKind.i64 x31 ∧
                        Later
                          (bif x31 == 1 then Wc Try.prog 21 [Value.pointer w] m29 k30 fun (v32 : Value) (m33 : Mem) (k34 : Nat) => ∃ (x35 : Int), v32 = Value.int IntKind.i64 x35 ∧ Later (Q (Value.bool (x35 == 1)) m33 k34)
                          else Q (Value.bool false) m29 k30)
                else Q (Value.bool false) m25 k26)
      else Q (Value.bool false) m n
    else Q (Value.bool false) m n
else
  bif ok then
    bif is then
      Wc Try.prog 19 [Value.pointer w] m n fun (v36 : Value) (m37 : Mem) (k38 : Nat) =>
        ∃ (b39 : Bool),
          v36 = Value.bool b39 ∧
            Later
              (bif b39 then
                Wc Try.prog 14 [Value.pointer w] m37 k38 fun (v40 : Value) (m41 : Mem) (k42 : Nat) =>
                  ∃ (x43 : Int),
                    v40 = Value.int IntKind.i64 x43 ∧
                      Later
                        (bif x43 == 1 then Wc Try.prog 21 [Value.pointer w] m41 k42 fun (v44 : Value) (m45 : Mem) (k46 : Nat) => ∃ (x47 : Int), v44 = Value.int IntKind.i64 x47 ∧ Later (Q (Value.bool (x47 == 1)) m45 k46)
                        else Q (Value.bool false) m41 k42)
              else Q (Value.bool false) m37 k38)
    else Q (Value.bool false) m n
  else Q (Value.bool false) m n) := by kernel_rfl

/- 7 leafmesh/leafmeshlaw12.DetectScript -/
theorem d12x7 (m : Mem) (n : Nat) (Q : Value → Mem → Nat → Prop) (multiplier : Int) (l_a : Option Addr) (l_l : Nat) (l_c : Nat) :
    Xc Try.prog d12xcfg 400 7 [Value.int IntKind.i64 multiplier, Value.slice l_a l_l l_c] m n Q =
    (bif decide ((↑l_l : Int) > 200) then Wc Try.prog 15 [] m n fun (v0 : Value) (m1 : Mem) (k2 : Nat) => ∃ (b3 : Bool), v0 = Value.bool b3 ∧ Later (Q (Value.bool b3) m1 k2)
else
  Wc Try.prog 9 [Value.int IntKind.i64 multiplier] m n fun (v4 : Value) (m5 : Mem) (k6 : Nat) =>
    ∃ (p7 : Option Addr),
      ∃ (x8 : Int),
        v4 = Value.tuple { toList := [Value.pointer p7, Value.int IntKind.i64 x8] } ∧
          Later
            (Wc Try.prog 23 [Value.int IntKind.i64 multiplier] m5 k6 fun (v9 : Value) (m10 : Mem) (k11 : Nat) =>
              ∃ (p12 : Option Addr),
                ∃ (x13 : Int),
                  v9 = Value.tuple { toList := [Value.pointer p12, Value.int IntKind.i64 x13] } ∧
                    Later
                      (bif x8 != x13 then Q (Value.bool false) m10 k11
                      else
                        bif !p7.isNone == p12.isNone then Q (Value.bool false) m10 k11
                        else
                          W Try.prog
                            { fn := 7, nt := 131, slots := [(1, Value.slice l_a l_l l_c), (5, Value.pointer p7), (7, Value.pointer p12), (9, Value.int IntKind.i64 0), (10, Value.int IntKind.i64 0)],
                              todo := pt Try.prog 7 [1, 1, 1, 1, 1, 1, 0, 1, 0, 0] }
                            m10 k11 Q))) := by kernel_rfl

theorem d12x7k0 (m : Mem) (n : Nat) (Q : Value → Mem → Nat → Prop) (l_a : Option Addr) (l_l : Nat) (l_c : Nat) (w : Option Addr) (o : Option Addr) (now : Int) (i : Int) :
    xF (evX Try.prog d12xcfg 400)
  { fn := 7, nt := 131, slots := [(1, Value.slice l_a l_l l_c), (5, Value.pointer w), (7, Value.pointer o), (9, Value.int IntKind.i64 now), (10, Value.int IntKind.i64 i)], todo := pt Try.prog 7 [1, 1, 1, 1, 1, 1, 0, 1, 0, 0] } m n Q =
    (bif !o.isNone then
  bif decide (i < (↑l_l : Int)) then
    elimA l_a False fun (k0 k1 : Nat) (p2 : Option Nat) =>
      (0 ≤ i ∧ i < (↑l_l : Int) ∧ liveAt m k0 = true ∧ (p2 ≠ none → 0 < l_c)) ∧
        isC m k0 = true ∧
          ∃ (x3 : Int),
            rd m k0 (offOf k1 p2 + i.toNat * 3 + 0) = some (Value.int IntKind.i64 x3) ∧
              Wc Try.prog 16 [Value.int IntKind.i64 x3, Value.int IntKind.i64 7] m n fun (v4 : Value) (m5 : Mem) (k6 : Nat) =>
                ∃ (x7 : Int),
                  v4 = Value.int IntKind.i64 x7 ∧
                    Later
                      (bif x7 == 5 then
                        Wc Try.prog 13 [Value.pointer w] m5 k6 fun (v8 : Value) (m9 : Mem) (k10 : Nat) =>
                          ∃ (x11 : Int),
                            v8 = Value.int IntKind.i64 x11 ∧
                              Later
                                (bif x11 != 0 then Q (Value.bool false) m9 k10
                                else
                                  Wc Try.prog 24 [Value.pointer o] m9 k10 fun (v12 : Value) (m13 : Mem) (k14 : Nat) =>
                                    v12 = Value.tuple { toList := [] } ∧
                                      Later
                                        (Wc Try.prog 28 [Value.pointer w, Value.pointer o] m13 k14 fun (v15 : Value) (m16 : Mem) (k17 : Nat) =>
                                          ∃ (b18 : Bool),
                                            v15 = Value.bool b18 ∧
                                              Later
                                                (bif !b18 then Q (Value.bool false) m16 k17
                                                else
                                                  W Try.prog
                                                    { fn := 7, nt := 131, slots := [(1, Value.slice l_a l_l l_c), (5, Value.pointer w), (7, Value.pointer o), (9, Value.int IntKind.i64 now), (10, Value.int IntKind.i64 (IntKind.i64.wrap (i + 1)))],
                                                      todo := pt Try.prog 7 [1, 1, 1, 1, 1, 1, 0, 1, 0, 0] }
                                                    m16 k17 Q)))
                      else
                        bif x7 == 6 then
                          Wc Try.prog 25 [Value.pointer w] m5 k6 fun (v19 : Value) (m20 : Mem) (k21 : Nat) =>
                            ∃ (p22 : Option Addr),
                              v19 = Value.pointer p22 ∧
                                Later
                                  (Wc Try.prog 26 [Value.pointer o] m20 k21 fun (v23 : Value) (m24 : Mem) (k25 : Nat) =>
                                    ∃ (p26 : Option Addr),
                                      v23 = Value.pointer p26 ∧
                                        Later
                                          (Wc Try.prog 11 [Value.pointer w, Value.int IntKind.i64 (IntKind.i64.wrap (now + 1)), Value.bool true] m24 k25 fun (v27 : Value) (m28 : Mem) (k29 : Nat) =>
                                            ∃ (b30 : Bool),
                                              ∃ (x31 : Int),
                                                v27 = Value.tuple { toList := [Value.bool b30, Value.int IntKind.i64 x31] } ∧
                                                  Later
                                                    (Wc Try.prog 11 [Value.pointer w, Value.int IntKind.i64 (IntKind.i64.wrap (now + 2)), Value.bool true] m28 k29 fun (v32 : Value) (m33 : Mem) (k34 : Nat) =>
                                                      ∃ (b35 : Bool),
                                                        ∃ (x36 : Int),
                                                          v32 = Value.tuple { toList := [Value.bool b35, Value.int IntKind.i64 x36] } ∧
                                                            Later
                                                              (Wc Try.prog 13 [Value.pointer w] m33 k34 fun (v37 : Value) (m38 : Mem) (k39 : Nat) =>
                                                                ∃ (x40 : Int),
                                                                  v37 = Value.int IntKind.i64 x40 ∧
                                                                    Later
                                                                      (Wc Try.prog 28 [Value.pointer p22, Value.pointer p26] m38 k39 fun (v41 : Value) (m42 : Mem) (k43 : Nat) =>
                                                                        ∃ (b44 : Bool),
                                                                          v41 = Value.bool b44 ∧
                                                                            Later
                                                                              (bif !b44 then Q (Value.bool false) m42 k43
                                                                              else
                                                                                W Try.prog
                                                                                  { fn := 7, nt := 131,
                                                                                    slots :=
                                                                                      [(1, Value.slice l_a l_l l_c), (5, Value.pointer p22), (7, Value.pointer p26), (9, Value.int IntKind.i64 now),
                                                                                        (10, Value.int IntKind.i64 (IntKind.i64.wrap (i + 1)))],
                                                                                    todo := pt Try.prog 7 [1, 1, 1, 1, 1, 1, 0, 1, 0, 0] }
                                                                                  m42 k43 Q))))))
                        else
                          bif x7 == 4 then
                            elimA l_a False fun (k45 k46 : Nat) (p47 : Option Nat) =>
                              (0 ≤ i ∧ i < (↑l_l : Int) ∧ liveAt m5 k45 = true ∧ (p47 ≠ none → 0 < l_c)) ∧
                                isC m5 k45 = true ∧
                                  ∃ (x48 : Int),
                                    rd m5 k45 (offOf k46 p47 + i.toNat * 3 + 1) = some (Value.int IntKind.i64 x48) ∧
                                      elimA l_a False fun (k49 k50 : Nat) (p51 : Option Nat) =>
                                        (0 ≤ i ∧ i < (↑l_l : Int) ∧ liveAt m5 k49 = true ∧ (p51 ≠ none → 0 < l_c)) ∧
                                          isC m5 k49 = true ∧
                                            ∃ (b52 : Bool),
                                              rd m5 k49 (offOf k50 p51 + i.toNat * 3 + 2) = some (Value.bool b52) ∧
                                                Wc Try.prog 11 [Value.pointer w, Value.int IntKind.i64 x48, Value.bool b52] m5 k6 fun (v53 : Value) (m54 : Mem) (k55 : Nat) =>
                                                  ∃ (b56 : Bool),
                                                    ∃ (x57 : Int),
                                                      v53 = Value.tuple { toList := [Value.bool b56, Value.int IntKind.i64 x57] } ∧
                                                        Later
                                                          (elimA l_a False fun (k58 k59 : Nat) (p60 : Option Nat) =>
                                                            (0 ≤ i ∧ i < (↑l_l : Int) ∧ liveAt m54 k58 = true ∧ (p60 ≠ none → 0 < l_c)) ∧
                                                              isC m54 k58 = true ∧
                                                                ∃ (b61 : Bool),
                                                                  rd m54 k58 (offOf k59 p60 + i.toNat * 3 + 2) = some (Value.bool b61) ∧
                                                                    Wc Try.prog 27 [Value.pointer o, Value.int IntKind.i64 x48, Value.bool b61] m54 k55 fun (v62 : Value) (m63 : Mem) (k64 : Nat) =>
                                                                      ∃ (b65 : Bool),
                                                                        ∃ (x66 : Int),
                                                                          v62 = Value.tuple { toList := [Value.bool b65, Value.int IntKind.i64 x66] } ∧
                                                                            Later
                                                                              (bif !b56 == b65 then Q (Value.bool false) m63 k64
                                                                              else
                                                                                bif x57 != x66 then Q (Value.bool false) m63 k64
                                                                                else
                                                                                  Wc Try.prog 28 [Value.pointer w, Value.pointer o] m63 k64 fun (v67 : Value) (m68 : Mem) (k69 : Nat) =>
                                                                                    ∃ (b70 : Bool),
                                                                                      v67 = Value.bool b70 ∧
                                                                                        Later
                                                                                          (bif !b70 then Q (Value.bool false) m68 k69
                                                                                          else
                                                                                            W Try.prog
                                                                                              { fn := 7, nt := 131,
                                                                                                slots :=
                                                                                                  [(1, Value.slice l_a l_l l_c), (5, Value.pointer w), (7, Value.pointer o), (9, Value.int IntKind.i64 x48),
                                                                                                    (10, Value.int IntKind.i64 (IntKind.i64.wrap (i + 1)))],
                                                                                                todo := pt Try.prog 7 [1, 1, 1, 1, 1, 1, 0, 1, 0, 0] }
                                                                                              m68 k69 Q)))
                          else
                            elimA l_a False fun (k71 k72 : Nat) (p73 : Option Nat) =>
                              (0 ≤ i ∧ i < (↑l_l : Int) ∧ liveAt m5 k71 = true ∧ (p73 ≠ none → 0 < l_c)) ∧
                                isC m5 k71 = true ∧
                                  ∃ (x74 : Int),
                                    rd m5 k71 (offOf k72 p73 + i.toNat * 3 + 1) = some (Value.int IntKind.i64 x74) ∧
                                      elimA l_a False fun (k75 k76 : Nat) (p77 : Option Nat) =>
                                        (0 ≤ i ∧ i < (↑l_l : Int) ∧ liveAt m5 k75 = true ∧ (p77 ≠ none → 0 < l_c)) ∧
                                          isC m5 k75 = true ∧
                                            ∃ (b78 : Bool),
                                              rd m5 k75 (offOf k76 p77 + i.toNat * 3 + 2) = some (Value.bool b78) ∧
                                                Wc Try.prog 11 [Value.pointer w, Value.int IntKind.i64 (IntKind.i64.wrap (now + x74)), Value.bool b78] m5 k6 fun (v79 : Value) (m80 : Mem) (k81 : Nat) =>
                                                  ∃ (b82 : Bool),
                                                    ∃ (x83 : Int),
                                                      v79 = Value.tuple { toList := [Value.bool b82, Value.int IntKind.i64 x83] } ∧
                                                        Later
                                                          (elimA l_a False fun (k84 k85 : Nat) (p86 : Option Nat) =>
                                                            (0 ≤ i ∧ i < (↑l_l : Int) ∧ liveAt m80 k84 = true ∧ (p86 ≠ none → 0 < l_c)) ∧
                                                              isC m80 k84 = true ∧
                                                                ∃ (b87 : Bool),
                                                                  rd m80 k84 (offOf k85 p86 + i.toNat * 3 + 2) = some (Value.bool b87) ∧
                                                                    Wc Try.prog 27 [Value.pointer o, Value.int IntKind.i64 (IntKind.i64.wrap (now + x74)), Value.bool b87] m80 k81 fun (v88 : Value) (m89 : Mem) (k90 : Nat) =>
                                                                      ∃ (b91 : Bool),
                                                                        ∃ (x92 : Int),
                                                                          v88 = Value.tuple { toList := [Value.bool b91, Value.int IntKind.i64 x92] } ∧
                                                                            Later
                                                                              (bif !b82 == b91 then Q (Value.bool false) m89 k90
                                                                              else
                                                                                bif x83 != x92 then Q (Value.bool false) m89 k90
                                                                                else
                                                                                  Wc Try.prog 28 [Value.pointer w, Value.pointer o] m89 k90 fun (v93 : Value) (m94 : Mem) (k95 : Nat) =>
                                                                                    ∃ (b96 : Bool),
                                                                                      v93 = Value.bool b96 ∧
                                                                                        Later
                                                                                          (bif !b96 then Q (Value.bool false) m94 k95
                                                                                          else
                                                                                            W Try.prog
                                                                                              { fn := 7, nt := 131,
                                                                                                slots :=
                                                                                                  [(1, Value.slice l_a l_l l_c), (5, Value.pointer w), (7, Value.pointer o), (9, Value.int IntKind.i64 (IntKind.i64.wrap (now + x74))),
                                                                                                    (10, Value.int IntKind.i64 (IntKind.i64.wrap (i + 1)))],
                                                                                                todo := pt Try.prog 7 [1, 1, 1, 1, 1, 1, 0, 1, 0, 0] }
                                                                                              m94 k95 Q))))
  else Wc Try.prog 15 [] m n fun (v97 : Value) (m98 : Mem) (k99 : Nat) => ∃ (b100 : Bool), v97 = Value.bool b100 ∧ Later (Q (Value.bool b100) m98 k99)
else Wc Try.prog 15 [] m n fun (v101 : Value) (m102 : Mem) (k103 : Nat) => ∃ (b104 : Bool), v101 = Value.bool b104 ∧ Later (Q (Value.bool b104) m102 k103)) := by kernel_rfl

/- 8 leafmesh/leafmeshlaw12.DetectNone -/
theorem d12x8 (m : Mem) (n : Nat) (Q : Value → Mem → Nat → Prop) (now : Int) (heard : Bool) :
    Xc Try.prog d12xcfg 400 8 [Value.int IntKind.i64 now, Value.bool heard] m n Q =
    (W Try.prog { fn := 8, nt := 73, slots := [(0, Value.int IntKind.i64 now), (1, Value.bool heard), (5, Value.slice (some { block := n + 1, off := 0 }) 2 2), (6, Value.int IntKind.i64 0)], todo := pt Try.prog 8 [1, 1, 0, 1, 0, 0] }
  ((Tr.set m n (AObj.cells none 56 1 [Value.pointer none])).set (n + 1) (AObj.cells none 22 1 [Value.pointer none, Value.pointer (some { block := n, off := 0 })])) (n + 1 + 1) Q) := by kernel_rfl

theorem d12x8k0 (m : Mem) (n : Nat) (Q : Value → Mem → Nat → Prop) (now : Int) (heard : Bool) (l_a : Option Addr) (l_l : Nat) (l_c : Nat) (i : Int) :
    xF (evX Try.prog d12xcfg 400) { fn := 8, nt := 73, slots := [(0, Value.int IntKind.i64 now), (1, Value.bool heard), (5, Value.slice l_a l_l l_c), (6, Value.int IntKind.i64 i)], todo := pt Try.prog 8 [1, 1, 0, 1, 0, 0] } m n Q =
    (bif decide (i < 2) then
  elimA l_a False fun (k0 k1 : Nat) (p2 : Option Nat) =>
    (0 ≤ i ∧ i < (↑l_l : Int) ∧ liveAt m k0 = true ∧ (p2 ≠ none → 0 < l_c)) ∧
      ∃ (p3 : Option Addr),
        rd m k0 (offOf k1 p2 + i.toNat * 1) = some (Value.pointer p3) ∧
          Wc Try.prog 11 [Value.pointer p3, Value.int IntKind.i64 now, Value.bool heard] m n fun (v4 : Value) (m5 : Mem) (k6 : Nat) =>
            ∃ (b7 : Bool),
              ∃ (x8 : Int),
                v4 = Value.tuple { toList := [Value.bool b7, Value.int IntKind.i64 x8] } ∧
                  Later
                    (Wc Try.prog 12 [Value.pointer p3] m5 k6 fun (v9 : Value) (m10 : Mem) (k11 : Nat) =>
                      ∃ (x12 : Int),
                        ∃ (b13 : Bool),
                          v9 = Value.tuple { toList := [Value.int IntKind.i64 x12, Value.bool b13] } ∧
                            Later
                              (bif b7 then Q (Value.bool false) m10 k11
                              else
                                bif x8 != 1 then Q (Value.bool false) m10 k11
                                else
                                  Wc Try.prog 19 [Value.pointer p3] m10 k11 fun (v14 : Value) (m15 : Mem) (k16 : Nat) =>
                                    ∃ (b17 : Bool),
                                      v14 = Value.bool b17 ∧
                                        Later
                                          (bif b17 then Q (Value.bool false) m15 k16
                                          else
                                            Wc Try.prog 21 [Value.pointer p3] m15 k16 fun (v18 : Value) (m19 : Mem) (k20 : Nat) =>
                                              ∃ (x21 : Int),
                                                v18 = Value.int IntKind.i64 x21 ∧
                                                  Later
                                                    (bif x21 != 0 then Q (Value.bool false) m19 k20
                                                    else
                                                      Wc Try.prog 14 [Value.pointer p3] m19 k20 fun (v22 : Value) (m23 : Mem) (k24 : Nat) =>
                                                        ∃ (x25 : Int),
                                                          v22 = Value.int IntKind.i64 x25 ∧
                                                            Later
                                                              (bif x25 != 0 then Q (Value.bool false) m23 k24
                                                              else
                                                                bif x12 != 0 then Q (Value.bool false) m23 k24
                                                                else
                                                                  bif b13 then Q (Value.bool false) m23 k24
                                                                  else
                                                                    Wc Try.prog 13 [Value.pointer p3] m23 k24 fun (v26 : Value) (m27 : Mem) (k28 : Nat) =>
                                                                      ∃ (x29 : Int),
                                                                        v26 = Value.int IntKind.i64 x29 ∧
                                                                          Later
                                                                            (bif x29 != 1 then Q (Value.bool false) m27 k28
                                                                            else
                                                                              Wc Try.prog 25 [Value.pointer p3] m27 k28 fun (v30 : Value) (m31 : Mem) (k32 : Nat) =>
                                                                                ∃ (p33 : Option Addr),
                                                                                  v30 = Value.pointer p33 ∧
                                                                                    Later
                                                                                      (Wc Try.prog 13 [Value.pointer p33] m31 k32 fun (v34 : Value) (m35 : Mem) (k36 : Nat) =>
                                                                                        ∃ (x37 : Int),
                                                                                          v34 = Value.int IntKind.i64 x37 ∧
                                                                                            Later
                                                                                              (bif x37 != 1 then Q (Value.bool false) m35 k36
                                                                                              else
                                                                                                W Try.prog
                                                                                                  { fn := 8, nt := 73,
                                                                                                    slots := [(0, Value.int IntKind.i64 now), (1, Value.bool heard), (5, Value.slice l_a l_l l_c), (6, Value.int IntKind.i64 (IntKind.i64.wrap (i + 1)))],
                                                                                                    todo := pt Try.prog 8 [1, 1, 0, 1, 0, 0] }
                                                                                                  m35 k36 Q))))))))
else Wc Try.prog 15 [] m n fun (v38 : Value) (m39 : Mem) (k40 : Nat) => ∃ (b41 : Bool), v38 = Value.bool b41 ∧ Later (Q (Value.bool b41) m39 k40)) := by kernel_rfl

/- 10 leafmesh/leafmeshlaw12.goes -/
theorem d12x10 (m : Mem) (n : Nat) (Q : Value → Mem → Nat → Prop) (w : Nat) (from' : Int) (heard_a : Option Addr) (heard_l : Nat) (heard_c : Nat) (up_a : Option Addr) (up_l : Nat) (up_c : Nat) :
    Xc Try.prog d12xcfg 400 10 [Value.pointer (some { block := w, off := 0 }), Value.int IntKind.i64 from', Value.slice heard_a heard_l heard_c, Value.slice up_a up_l up_c] m n Q =
    (Wc Try.prog 17 [Value.pointer (some { block := w, off := 0 }), Value.int IntKind.i64 from', Value.slice heard_a heard_l heard_c] m n fun (v0 : Value) (m1 : Mem) (k2 : Nat) =>
  ∃ (p3 : Option Addr),
    ∃ (k4 : Nat),
      ∃ (k5 : Nat),
        ∃ (b6 : Bool),
          v0 = Value.tuple { toList := [Value.slice p3 k4 k5, Value.bool b6] } ∧
            Later (bif b6 then Wc Try.prog 20 [Value.slice p3 k4 k5, Value.slice up_a up_l up_c] m1 k2 fun (v7 : Value) (m8 : Mem) (k9 : Nat) => ∃ (b10 : Bool), v7 = Value.bool b10 ∧ Later (Q (Value.bool b10) m8 k9) else Q (Value.bool false) m1 k2)) := by kernel_rfl

/- 23 leafmesh/leafmeshref12.New -/
theorem d12x23 (m : Mem) (n : Nat) (Q : Value → Mem → Nat → Prop) (multiplier : Int) :
    Xc Try.prog d12xcfg 400 23 [Value.int IntKind.i64 multiplier] m n Q =
    (bif decide (multiplier < 1) then Q (Value.tuple { toList := [Value.pointer none, Value.int IntKind.i64 2] }) m n
else
  bif decide (multiplier > 1000) then Q (Value.tuple { toList := [Value.pointer none, Value.int IntKind.i64 2] }) m n
  else
    Q (Value.tuple { toList := [Value.pointer (some { block := n, off := 0 }), Value.int IntKind.i64 0] })
      (Tr.set m n (AObj.cells none 67 7 [Value.int IntKind.i64 multiplier, Value.bool false, Value.int IntKind.i64 (-1), Value.int IntKind.i64 0, Value.bool false, Value.int IntKind.i64 0, Value.int IntKind.i64 0])) (n + 1)) := by kernel_rfl

/- 24 (*leafmesh/leafmeshref12.Watch).Reset -/
theorem d12x24 (m : Mem) (n : Nat) (Q : Value → Mem → Nat → Prop) (w : Nat) :
    Xc Try.prog d12xcfg 400 24 [Value.pointer (some { block := w, off := 0 })] m n Q =
    (isC m w = true ∧
  ∃ (x0 : Int),
    rd m w 0 = some (Value.int IntKind.i64 x0) ∧
      Wc Try.prog 23 [Value.int IntKind.i64 x0] m n fun (v1 : Value) (m2 : Mem) (k3 : Nat) =>
        ∃ (p4 : Option Addr),
          ∃ (x5 : Int),
            v1 = Value.tuple { toList := [Value.pointer p4, Value.int IntKind.i64 x5] } ∧
              Later
                (elimP p4 False fun (k6 k7 : Nat) =>
                  ∃ (x8 : Int),
                    ∃ (b9 : Bool),
                      ∃ (x10 : Int),
                        ∃ (x11 : Int),
                          ∃ (b12 : Bool),
                            ∃ (x13 : Int),
                              ∃ (x14 : Int),
                                rds m2 k6 k7 7 = some [Value.int IntKind.i64 x8, Value.bool b9, Value.int IntKind.i64 x10, Value.int IntKind.i64 x11, Value.bool b12, Value.int IntKind.i64 x13, Value.int IntKind.i64 x14] ∧
                                  ∃ (m15 : Mem),
                                    storeCs m2 w 0 [Value.int IntKind.i64 x8, Value.bool b9, Value.int IntKind.i64 x10, Value.int IntKind.i64 x11, Value.bool b12, Value.int IntKind.i64 x13, Value.int IntKind.i64 x14] = some m15 ∧
                                      Q (Value.tuple { toList := [] }) m15 k3)) := by kernel_rfl

/- 26 (*leafmesh/leafmeshref12.Watch).Copy -/
theorem d12x26 (m : Mem) (n : Nat) (Q : Value → Mem → Nat → Prop) (w : Nat) :
    Xc Try.prog d12xcfg 400 26 [Value.pointer (some { block := w, off := 0 })] m n Q =
    (∃ (x0 : Int),
  ∃ (b1 : Bool),
    ∃ (x2 : Int),
      ∃ (x3 : Int),
        ∃ (b4 : Bool),
          ∃ (x5 : Int),
            ∃ (x6 : Int),
              rds m w 0 7 = some [Value.int IntKind.i64 x0, Value.bool b1, Value.int IntKind.i64 x2, Value.int IntKind.i64 x3, Value.bool b4, Value.int IntKind.i64 x5, Value.int IntKind.i64 x6] ∧
                ∃ (m7 : Mem),
                  storeCs (Tr.set m n (AObj.cells none 67 7 [Value.int IntKind.i64 0, Value.bool false, Value.int IntKind.i64 0, Value.int IntKind.i64 0, Value.bool false, Value.int IntKind.i64 0, Value.int IntKind.i64 0])) n 0
                        [Value.int IntKind.i64 x0, Value.bool b1, Value.int IntKind.i64 x2, Value.int IntKind.i64 x3, Value.bool b4, Value.int IntKind.i64 x5, Value.int IntKind.i64 x6] =
                      some m7 ∧
                    Q (Value.pointer (some { block := n, off := 0 })) m7 (n + 1)) := by kernel_rfl

/- 27 (*leafmesh/leafmeshref12.Watch).Tick -/
theorem d12x27 (m : Mem) (n : Nat) (Q : Value → Mem → Nat → Prop) (w : Nat) (now : Int) (heard : Bool) :
    Xc Try.prog d12xcfg 400 27 [Value.pointer (some { block := w, off := 0 }), Value.int IntKind.i64 now, Value.bool heard] m n Q =
    (bif decide (now < 0) then Q (Value.tuple { toList := [Value.bool false, Value.int IntKind.i64 2] }) m n
else
  bif decide (now > 1099511627776) then Q (Value.tuple { toList := [Value.bool false, Value.int IntKind.i64 2] }) m n
  else
    isC m w = true ∧
      ∃ (x0 : Int),
        rd m w 2 = some (Value.int IntKind.i64 x0) ∧
          bif decide (x0 ≥ 0) then
            isC m w = true ∧
              ∃ (x1 : Int),
                rd m w 2 = some (Value.int IntKind.i64 x1) ∧
                  bif decide (now ≤ x1) then Q (Value.tuple { toList := [Value.bool false, Value.int IntKind.i64 20] }) m n
                  else W Try.prog { fn := 27, nt := 99, slots := [(0, Value.pointer (some { block := w, off := 0 })), (1, Value.int IntKind.i64 now), (2, Value.bool heard)], todo := pt Try.prog 27 [1, 1, 0] } m n Q
          else W Try.prog { fn := 27, nt := 99, slots := [(0, Value.pointer (some { block := w, off := 0 })), (1, Value.int IntKind.i64 now), (2, Value.bool heard)], todo := pt Try.prog 27 [1, 1, 0] } m n Q) := by kernel_rfl

theorem d12x27k0 (m : Mem) (n : Nat) (Q : Value → Mem → Nat → Prop) (w : Nat) (now : Int) (heard : Bool) :
    xF (ev1 Try.prog d12xcfg 400) { fn := 27, nt := 99, slots := [(0, Value.pointer (some { block := w, off := 0 })), (1, Value.int IntKind.i64 now), (2, Value.bool heard)], todo := pt Try.prog 27 [1, 1, 0] } m n Q =
    (isC m w = true ∧
  ∃ (b0 : Bool),
    rd m w 1 = some (Value.bool b0) ∧
      bif b0 then
        bif !heard then
          isC m w = true ∧
            ∃ (x1 : Int),
              rd m w 3 = some (Value.int IntKind.i64 x1) ∧
                isC m w = true ∧
                  ∃ (x2 : Int),
                    rd m w 0 = some (Value.int IntKind.i64 x2) ∧
                      W Try.prog
                        { fn := 27, nt := 99, slots := [(0, Value.pointer (some { block := w, off := 0 })), (1, Value.int IntKind.i64 now), (2, Value.bool heard), (8, Value.bool (decide (now ≥ IntKind.i64.wrap (x1 + x2))))],
                          todo := pt Try.prog 27 [1, 1, 1, 1, 0, 0] }
                        m (n + 16) Q
        else W Try.prog { fn := 27, nt := 99, slots := [(0, Value.pointer (some { block := w, off := 0 })), (1, Value.int IntKind.i64 now), (2, Value.bool heard), (8, Value.bool false)], todo := pt Try.prog 27 [1, 1, 1, 1, 0, 0] } m (n + 16) Q
      else
        bif heard then
          isC m w = true ∧
            ∃ (b3 : Bool),
              rd m w 4 = some (Value.bool b3) ∧
                bif b3 then
                  isC m w = true ∧
                    ∃ (x4 : Int),
                      rd m w 2 = some (Value.int IntKind.i64 x4) ∧
                        W Try.prog
                          { fn := 27, nt := 99, slots := [(0, Value.pointer (some { block := w, off := 0 })), (1, Value.int IntKind.i64 now), (2, Value.bool heard), (8, Value.bool (x4 == IntKind.i64.wrap (now - 1)))],
                            todo := pt Try.prog 27 [1, 1, 1, 1, 0, 0] }
                          m n Q
                else W Try.prog { fn := 27, nt := 99, slots := [(0, Value.pointer (some { block := w, off := 0 })), (1, Value.int IntKind.i64 now), (2, Value.bool heard), (8, Value.bool false)], todo := pt Try.prog 27 [1, 1, 1, 1, 0, 0] } m n Q
        else W Try.prog { fn := 27, nt := 99, slots := [(0, Value.pointer (some { block := w, off := 0 })), (1, Value.int IntKind.i64 now), (2, Value.bool heard), (8, Value.bool false)], todo := pt Try.prog 27 [1, 1, 1, 1, 0, 0] } m n Q) := by kernel_rfl

theorem d12x27k1 (m : Mem) (n : Nat) (Q : Value → Mem → Nat → Prop) (w : Nat) (now : Int) (heard : Bool) (change : Bool) :
    xF (ev1 Try.prog d12xcfg 400) { fn := 27, nt := 99, slots := [(0, Value.pointer (some { block := w, off := 0 })), (1, Value.int IntKind.i64 now), (2, Value.bool heard), (8, Value.bool change)], todo := pt Try.prog 27 [1, 1, 1, 1, 0, 0] } m n Q =
    (bif heard then
  isC m w = true ∧
    ∃ (m0 : Mem),
      storeCs m w 3 [Value.int IntKind.i64 now] = some m0 ∧
        W Try.prog { fn := 27, nt := 99, slots := [(0, Value.pointer (some { block := w, off := 0 })), (1, Value.int IntKind.i64 now), (2, Value.bool heard), (8, Value.bool change)], todo := pt Try.prog 27 [1, 1, 1, 1, 1, 0] } m0 n Q
else W Try.prog { fn := 27, nt := 99, slots := [(0, Value.pointer (some { block := w, off := 0 })), (1, Value.int IntKind.i64 now), (2, Value.bool heard), (8, Value.bool change)], todo := pt Try.prog 27 [1, 1, 1, 1, 1, 0] } m n Q) := by kernel_rfl

theorem d12x27k2 (m : Mem) (n : Nat) (Q : Value → Mem → Nat → Prop) (w : Nat) (now : Int) (heard : Bool) (change_1 : Bool) :
    xF (ev1 Try.prog d12xcfg 400) { fn := 27, nt := 99, slots := [(0, Value.pointer (some { block := w, off := 0 })), (1, Value.int IntKind.i64 now), (2, Value.bool heard), (8, Value.bool change_1)], todo := pt Try.prog 27 [1, 1, 1, 1, 1, 0] } m n Q =
    (isC m w = true ∧
  ∃ (m0 : Mem),
    storeCs m w 2 [Value.int IntKind.i64 now] = some m0 ∧
      isC m0 w = true ∧
        ∃ (m1 : Mem),
          storeCs m0 w 4 [Value.bool heard] = some m1 ∧
            bif change_1 then
              isC m1 w = true ∧
                ∃ (b2 : Bool),
                  rd m1 w 1 = some (Value.bool b2) ∧
                    isC m1 w = true ∧
                      ∃ (m3 : Mem),
                        storeCs m1 w 1 [Value.bool !b2] = some m3 ∧
                          isC m3 w = true ∧
                            ∃ (m4 : Mem),
                              storeCs m3 w 5 [Value.int IntKind.i64 now] = some m4 ∧
                                isC m4 w = true ∧
                                  ∃ (x5 : Int),
                                    rd m4 w 6 = some (Value.int IntKind.i64 x5) ∧
                                      isC m4 w = true ∧ ∃ (m6 : Mem), storeCs m4 w 6 [Value.int IntKind.i64 (IntKind.i64.wrap (x5 + 1))] = some m6 ∧ Q (Value.tuple { toList := [Value.bool change_1, Value.int IntKind.i64 0] }) m6 n
            else Q (Value.tuple { toList := [Value.bool change_1, Value.int IntKind.i64 0] }) m1 n) := by kernel_rfl

/- 28 leafmesh/leafmeshlaw12.same -/
theorem d12x28 (m : Mem) (n : Nat) (Q : Value → Mem → Nat → Prop) (w : Nat) (o : Nat) :
    Xc Try.prog d12xcfg 400 28 [Value.pointer (some { block := w, off := 0 }), Value.pointer (some { block := o, off := 0 })] m n Q =
    (Wc Try.prog 12 [Value.pointer (some { block := w, off := 0 })] m n fun (v0 : Value) (m1 : Mem) (k2 : Nat) =>
  ∃ (x3 : Int),
    ∃ (b4 : Bool),
      v0 = Value.tuple { toList := [Value.int IntKind.i64 x3, Value.bool b4] } ∧
        Later
          (Wc Try.prog 31 [Value.pointer (some { block := o, off := 0 })] m1 k2 fun (v5 : Value) (m6 : Mem) (k7 : Nat) =>
            ∃ (x8 : Int),
              ∃ (b9 : Bool),
                v5 = Value.tuple { toList := [Value.int IntKind.i64 x8, Value.bool b9] } ∧
                  Later
                    (∃ (b10 : Bool),
                      ∃ (m11 : Mem),
                        ∃ (k12 : Nat),
                          (Wc Try.prog 19 [Value.pointer (some { block := w, off := 0 })] m6 (k7 + 36) fun (v13 : Value) (m14 : Mem) (k15 : Nat) => v13 = Value.bool b10 ∧ m14 = m11 ∧ k15 = k12) ∧
                            Later
                              (isC m11 o = true ∧
                                ∃ (b16 : Bool),
                                  rd m11 o 1 = some (Value.bool b16) ∧
                                    bif b10 == b16 then
                                      ∃ (x17 : Int),
                                        ∃ (m18 : Mem),
                                          ∃ (k19 : Nat),
                                            (Wc Try.prog 21 [Value.pointer (some { block := w, off := 0 })] m11 k12 fun (v20 : Value) (m21 : Mem) (k22 : Nat) => v20 = Value.int IntKind.i64 x17 ∧ m21 = m18 ∧ k22 = k19) ∧
                                              Later
                                                (isC m18 o = true ∧
                                                  ∃ (x23 : Int),
                                                    rd m18 o 5 = some (Value.int IntKind.i64 x23) ∧
                                                      bif x17 == x23 then
                                                        ∃ (x24 : Int),
                                                          ∃ (m25 : Mem),
                                                            ∃ (k26 : Nat),
                                                              (Wc Try.prog 14 [Value.pointer (some { block := w, off := 0 })] m18 k19 fun (v27 : Value) (m28 : Mem) (k29 : Nat) => v27 = Value.int IntKind.i64 x24 ∧ m28 = m25 ∧ k29 = k26) ∧
                                                                Later
                                                                  (isC m25 o = true ∧
                                                                    ∃ (x30 : Int),
                                                                      rd m25 o 6 = some (Value.int IntKind.i64 x30) ∧
                                                                        bif x24 == x30 then
                                                                          bif x3 == x8 then
                                                                            (∃ (x31 : Int), rd m18 o 6 = some (Value.int IntKind.i64 x31) ∧ Value.int IntKind.i64 x31 = Value.int IntKind.i64 x30) ∧
                                                                              (isC m18 o = true ∧ Value.pointer (some { block := o, off := 6 }) = Value.pointer (some { block := o, off := 6 })) ∧
                                                                                (∃ (x32 : Int), rd m11 o 5 = some (Value.int IntKind.i64 x32) ∧ Value.int IntKind.i64 x32 = Value.int IntKind.i64 x23) ∧
                                                                                  (isC m11 o = true ∧ Value.pointer (some { block := o, off := 5 }) = Value.pointer (some { block := o, off := 5 })) ∧
                                                                                    (∃ (b33 : Bool), rd m6 o 1 = some (Value.bool b33) ∧ Value.bool b33 = Value.bool b16) ∧
                                                                                      (isC m6 o = true ∧ Value.pointer (some { block := o, off := 1 }) = Value.pointer (some { block := o, off := 1 })) ∧
                                                                                        k7 + 36 ≤ k12 ∧ k7 + 36 ≤ k19 ∧ k7 + 36 ≤ k26 ∧ Q (Value.bool (b4 == b9)) m25 k26
                                                                          else
                                                                            (∃ (x34 : Int), rd m18 o 6 = some (Value.int IntKind.i64 x34) ∧ Value.int IntKind.i64 x34 = Value.int IntKind.i64 x30) ∧
                                                                              (isC m18 o = true ∧ Value.pointer (some { block := o, off := 6 }) = Value.pointer (some { block := o, off := 6 })) ∧
                                                                                (∃ (x35 : Int), rd m11 o 5 = some (Value.int IntKind.i64 x35) ∧ Value.int IntKind.i64 x35 = Value.int IntKind.i64 x23) ∧
                                                                                  (isC m11 o = true ∧ Value.pointer (some { block := o, off := 5 }) = Value.pointer (some { block := o, off := 5 })) ∧
                                                                                    (∃ (b36 : Bool), rd m6 o 1 = some (Value.bool b36) ∧ Value.bool b36 = Value.bool b16) ∧
                                                                                      (isC m6 o = true ∧ Value.pointer (some { block := o, off := 1 }) = Value.pointer (some { block := o, off := 1 })) ∧
                                                                                        k7 + 36 ≤ k12 ∧ k7 + 36 ≤ k19 ∧ k7 + 36 ≤ k26 ∧ Q (Value.bool false) m25 k26
                                                                        else
                                                                          (∃ (x37 : Int), rd m18 o 6 = some (Value.int IntKind.i64 x37) ∧ Value.int IntKind.i64 x37 = Value.int IntKind.i64 x30) ∧
                                                                            (isC m18 o = true ∧ Value.pointer (some { block := o, off := 6 }) = Value.pointer (some { block := o, off := 6 })) ∧
                                                                              (∃ (x38 : Int), rd m11 o 5 = some (Value.int IntKind.i64 x38) ∧ Value.int IntKind.i64 x38 = Value.int IntKind.i64 x23) ∧
                                                                                (isC m11 o = true ∧ Value.pointer (some { block := o, off := 5 }) = Value.pointer (some { block := o, off := 5 })) ∧
                                                                                  (∃ (b39 : Bool), rd m6 o 1 = some (Value.bool b39) ∧ Value.bool b39 = Value.bool b16) ∧
                                                                                    (isC m6 o = true ∧ Value.pointer (some { block := o, off := 1 }) = Value.pointer (some { block := o, off := 1 })) ∧
                                                                                      k7 + 36 ≤ k12 ∧ k7 + 36 ≤ k19 ∧ k7 + 36 ≤ k26 ∧ Q (Value.bool false) m25 k26)
                                                      else
                                                        (∃ (x40 : Int), rd m11 o 5 = some (Value.int IntKind.i64 x40) ∧ Value.int IntKind.i64 x40 = Value.int IntKind.i64 x23) ∧
                                                          (isC m11 o = true ∧ Value.pointer (some { block := o, off := 5 }) = Value.pointer (some { block := o, off := 5 })) ∧
                                                            (∃ (b41 : Bool), rd m6 o 1 = some (Value.bool b41) ∧ Value.bool b41 = Value.bool b16) ∧
                                                              (isC m6 o = true ∧ Value.pointer (some { block := o, off := 1 }) = Value.pointer (some { block := o, off := 1 })) ∧ k7 + 36 ≤ k12 ∧ k7 + 36 ≤ k19 ∧ Q (Value.bool false) m18 k19)
                                    else
                                      (∃ (b42 : Bool), rd m6 o 1 = some (Value.bool b42) ∧ Value.bool b42 = Value.bool b16) ∧
                                        (isC m6 o = true ∧ Value.pointer (some { block := o, off := 1 }) = Value.pointer (some { block := o, off := 1 })) ∧ k7 + 36 ≤ k12 ∧ Q (Value.bool false) m11 k12)))) := by kernel_rfl

/- 31 (*leafmesh/leafmeshref12.Watch).Due -/
theorem d12x31 (m : Mem) (n : Nat) (Q : Value → Mem → Nat → Prop) (w : Nat) :
    Xc Try.prog d12xcfg 400 31 [Value.pointer (some { block := w, off := 0 })] m n Q =
    (isC m w = true ∧
  ∃ (b0 : Bool),
    rd m w 1 = some (Value.bool b0) ∧
      bif !b0 then Q (Value.tuple { toList := [Value.int IntKind.i64 0, Value.bool false] }) m n
      else
        isC m w = true ∧
          ∃ (x1 : Int),
            rd m w 3 = some (Value.int IntKind.i64 x1) ∧ isC m w = true ∧ ∃ (x2 : Int), rd m w 0 = some (Value.int IntKind.i64 x2) ∧ Q (Value.tuple { toList := [Value.int IntKind.i64 (IntKind.i64.wrap (x1 + x2)), Value.bool true] }) m (n + 11)) := by kernel_rfl

/- 30 leafmesh/detect.turns -/
theorem d12x30 (m : Mem) (n : Nat) (Q : Value → Mem → Nat → Prop) :
    Xc Try.prog d12xcfg 400 30 [] m n Q =
    (∃ (m0 : Mem),
  storeCs (Tr.set m n (AObj.cells none 64 2 [Value.nilFunc, Value.nilFunc])) n 0 [Value.func (Fn.func 32) { toList := [] } { toList := [] }, Value.func (Fn.func 33) { toList := [] } { toList := [] }] = some m0 ∧
    ∃ (y1 : Fn),
      ∃ (l2 : List Value),
        ∃ (l3 : List Value),
          ∃ (y4 : Fn),
            ∃ (l5 : List Value),
              ∃ (l6 : List Value),
                rds m0 n 0 2 = some [Value.func y1 { toList := l2 } { toList := l3 }, Value.func y4 { toList := l5 } { toList := l6 }] ∧
                  Q (Value.agg { toList := [Value.func y1 { toList := l2 } { toList := l3 }, Value.func y4 { toList := l5 } { toList := l6 }] }) m0 (n + 1)) := by kernel_rfl

/- 32 (*leafmesh/detect.state).rises -/
theorem d12x32 (m : Mem) (n : Nat) (Q : Value → Mem → Nat → Prop) (s : Nat) (now : Int) (heard : Bool) :
    Xc Try.prog d12xcfg 400 32 [Value.pointer (some { block := s, off := 0 }), Value.int IntKind.i64 now, Value.bool heard] m n Q =
    (bif heard then
  isC m s = true ∧
    ∃ (p0 : Option Addr),
      rd m s 2 = some (Value.pointer p0) ∧
        bif !p0.isNone then
          isC m s = true ∧
            ∃ (b1 : Bool),
              rd m s 3 = some (Value.bool b1) ∧
                bif b1 then
                  isC m s = true ∧ ∃ (p2 : Option Addr), rd m s 2 = some (Value.pointer p2) ∧ elimP p2 False fun (k3 k4 : Nat) => ∃ (x5 : Int), rd m k3 k4 = some (Value.int IntKind.i64 x5) ∧ Q (Value.bool (x5 == IntKind.i64.wrap (now - 1))) m n
                else Q (Value.bool false) m n
        else Q (Value.bool false) m n
else Q (Value.bool false) m n) := by kernel_rfl

/- 33 (*leafmesh/detect.state).falls -/
theorem d12x33 (m : Mem) (n : Nat) (Q : Value → Mem → Nat → Prop) (s : Nat) (now : Int) (heard : Bool) :
    Xc Try.prog d12xcfg 400 33 [Value.pointer (some { block := s, off := 0 }), Value.int IntKind.i64 now, Value.bool heard] m n Q =
    (bif !heard then isC m s = true ∧ ∃ (x0 : Int), rd m s 4 = some (Value.int IntKind.i64 x0) ∧ isC m s = true ∧ ∃ (x1 : Int), rd m s 0 = some (Value.int IntKind.i64 x1) ∧ Q (Value.bool (decide (now ≥ IntKind.i64.wrap (x0 + x1)))) m (n + 16)
else Q (Value.bool false) m (n + 16)) := by kernel_rfl

/- 15 leafmesh/leafmeshlaw12.awake -/
theorem d12x15 (m : Mem) (n : Nat) (Q : Value → Mem → Nat → Prop) :
    Xc Try.prog d12xcfg 400 15 [] m n Q =
    (Wc Try.prog 9 [Value.int IntKind.i64 3] m n fun (v0 : Value) (m1 : Mem) (k2 : Nat) =>
  ∃ (p3 : Option Addr),
    ∃ (x4 : Int),
      v0 = Value.tuple { toList := [Value.pointer p3, Value.int IntKind.i64 x4] } ∧
        Later
          (bif x4 != 0 then Q (Value.bool false) m1 k2
          else
            bif p3.isNone then Q (Value.bool false) m1 k2
            else
              Wc Try.prog 10 [Value.pointer p3, Value.int IntKind.i64 5, Value.slice (some { block := k2, off := 0 }) 2 2, Value.slice (some { block := k2 + 1, off := 0 }) 2 2]
                ((Tr.set m1 k2 (AObj.cells none 4 1 [Value.bool true, Value.bool true])).set (k2 + 1) (AObj.cells none 4 1 [Value.bool false, Value.bool true])) (k2 + 1 + 1) fun (v5 : Value) (m6 : Mem) (k7 : Nat) =>
                ∃ (b8 : Bool),
                  v5 = Value.bool b8 ∧
                    Later
                      (bif !b8 then Q (Value.bool false) m6 k7
                      else
                        Wc Try.prog 12 [Value.pointer p3] m6 k7 fun (v9 : Value) (m10 : Mem) (k11 : Nat) =>
                          ∃ (x12 : Int),
                            ∃ (b13 : Bool),
                              v9 = Value.tuple { toList := [Value.int IntKind.i64 x12, Value.bool b13] } ∧
                                Later
                                  (Wc Try.prog 21 [Value.pointer p3] m10 k11 fun (v14 : Value) (m15 : Mem) (k16 : Nat) =>
                                    ∃ (x17 : Int),
                                      v14 = Value.int IntKind.i64 x17 ∧
                                        Later
                                          (bif x17 == 6 then
                                            bif x12 == 9 then
                                              bif b13 then
                                                Wc Try.prog 10 [Value.pointer p3, Value.int IntKind.i64 7, Value.slice (some { block := k16, off := 0 }) 3 3, Value.slice (some { block := k16 + 1, off := 0 }) 3 3]
                                                  ((Tr.set m15 k16 (AObj.cells none 4 1 [Value.bool false, Value.bool false, Value.bool false])).set (k16 + 1) (AObj.cells none 4 1 [Value.bool true, Value.bool true, Value.bool false])) (k16 + 1 + 1)
                                                  fun (v18 : Value) (m19 : Mem) (k20 : Nat) =>
                                                  ∃ (b21 : Bool),
                                                    v18 = Value.bool b21 ∧
                                                      Later
                                                        (bif b21 then
                                                          Wc Try.prog 21 [Value.pointer p3] m19 k20 fun (v22 : Value) (m23 : Mem) (k24 : Nat) =>
                                                            ∃ (x25 : Int),
                                                              v22 = Value.int IntKind.i64 x25 ∧
                                                                Later
                                                                  (bif x25 == 9 then
                                                                    Wc Try.prog 14 [Value.pointer p3] m23 k24 fun (v26 : Value) (m27 : Mem) (k28 : Nat) => ∃ (x29 : Int), v26 = Value.int IntKind.i64 x29 ∧ Later (Q (Value.bool (x29 == 2)) m27 k28)
                                                                  else Q (Value.bool false) m23 k24)
                                                        else Q (Value.bool false) m19 k20)
                                              else Q (Value.bool false) m15 k16
                                            else Q (Value.bool false) m15 k16
                                          else Q (Value.bool false) m15 k16))))) := by kernel_rfl

/- 3 leafmesh/leafmeshlaw12.DetectKnown -/
theorem d12x3 (m : Mem) (n : Nat) (Q : Value → Mem → Nat → Prop) :
    Xc Try.prog d12xcfg 400 3 [] m n Q =
    (Wc Try.prog 9 [Value.int IntKind.i64 3] m n fun (v0 : Value) (m1 : Mem) (k2 : Nat) =>
  ∃ (p3 : Option Addr),
    ∃ (x4 : Int),
      v0 = Value.tuple { toList := [Value.pointer p3, Value.int IntKind.i64 x4] } ∧
        Later
          (bif x4 != 0 then Q (Value.bool false) m1 k2
          else
            bif p3.isNone then Q (Value.bool false) m1 k2
            else
              Wc Try.prog 10 [Value.pointer p3, Value.int IntKind.i64 5, Value.slice (some { block := k2, off := 0 }) 5 5, Value.slice none 0 0]
                (Tr.set m1 k2 (AObj.cells none 4 1 [Value.bool true, Value.bool true, Value.bool false, Value.bool false, Value.bool false])) (k2 + 1) fun (v5 : Value) (m6 : Mem) (k7 : Nat) =>
                ∃ (b8 : Bool),
                  v5 = Value.bool b8 ∧
                    Later
                      (Wc Try.prog 10 [Value.pointer p3, Value.int IntKind.i64 10, Value.slice (some { block := k7, off := 0 }) 1 1, Value.slice (some { block := k7 + 1, off := 0 }) 1 1]
                        ((Tr.set m6 k7 (AObj.cells none 4 1 [Value.bool true])).set (k7 + 1) (AObj.cells none 4 1 [Value.bool false])) (k7 + 1 + 1) fun (v9 : Value) (m10 : Mem) (k11 : Nat) =>
                        ∃ (b12 : Bool),
                          v9 = Value.bool b12 ∧
                            Later
                              (bif b12 then
                                Wc Try.prog 10 [Value.pointer p3, Value.int IntKind.i64 12, Value.slice (some { block := k11, off := 0 }) 2 2, Value.slice (some { block := k11 + 1, off := 0 }) 2 2]
                                  ((Tr.set m10 k11 (AObj.cells none 4 1 [Value.bool true, Value.bool true])).set (k11 + 1) (AObj.cells none 4 1 [Value.bool false, Value.bool true])) (k11 + 1 + 1) fun (v13 : Value) (m14 : Mem) (k15 : Nat) =>
                                  ∃ (b16 : Bool),
                                    v13 = Value.bool b16 ∧
                                      Later
                                        (bif b16 then
                                          Wc Try.prog 10 [Value.pointer p3, Value.int IntKind.i64 15, Value.slice (some { block := k15, off := 0 }) 2 2, Value.slice (some { block := k15 + 1, off := 0 }) 2 2]
                                            ((Tr.set m14 k15 (AObj.cells none 4 1 [Value.bool false, Value.bool false])).set (k15 + 1) (AObj.cells none 4 1 [Value.bool true, Value.bool false])) (k15 + 1 + 1)
                                            fun (v17 : Value) (m18 : Mem) (k19 : Nat) =>
                                            ∃ (b20 : Bool),
                                              v17 = Value.bool b20 ∧
                                                Later
                                                  (Wc Try.prog 11 [Value.pointer p3, Value.int IntKind.i64 16, Value.bool true] m18 k19 fun (v21 : Value) (m22 : Mem) (k23 : Nat) =>
                                                    ∃ (b24 : Bool),
                                                      ∃ (x25 : Int),
                                                        v21 = Value.tuple { toList := [Value.bool b24, Value.int IntKind.i64 x25] } ∧
                                                          Later
                                                            (Wc Try.prog 11 [Value.pointer p3, Value.int IntKind.i64 (-1), Value.bool true] m22 k23 fun (v26 : Value) (m27 : Mem) (k28 : Nat) =>
                                                              ∃ (b29 : Bool),
                                                                ∃ (x30 : Int),
                                                                  v26 = Value.tuple { toList := [Value.bool b29, Value.int IntKind.i64 x30] } ∧
                                                                    Later
                                                                      (Wc Try.prog 12 [Value.pointer p3] m27 k28 fun (v31 : Value) (m32 : Mem) (k33 : Nat) =>
                                                                        ∃ (x34 : Int),
                                                                          ∃ (b35 : Bool),
                                                                            v31 = Value.tuple { toList := [Value.int IntKind.i64 x34, Value.bool b35] } ∧
                                                                              Later
                                                                                (bif x25 == 20 then
                                                                                  bif x30 == 2 then
                                                                                    bif !b35 then
                                                                                      Wc Try.prog 13 [Value.pointer p3] m32 k33 fun (v36 : Value) (m37 : Mem) (k38 : Nat) =>
                                                                                        ∃ (x39 : Int),
                                                                                          v36 = Value.int IntKind.i64 x39 ∧
                                                                                            Later
                                                                                              (bif x39 == 0 then
                                                                                                Wc Try.prog 10
                                                                                                  [Value.pointer p3, Value.int IntKind.i64 3, Value.slice (some { block := k38, off := 0 }) 1 1, Value.slice (some { block := k38 + 1, off := 0 }) 1 1]
                                                                                                  ((Tr.set m37 k38 (AObj.cells none 4 1 [Value.bool true])).set (k38 + 1) (AObj.cells none 4 1 [Value.bool false])) (k38 + 1 + 1)
                                                                                                  fun (v40 : Value) (m41 : Mem) (k42 : Nat) =>
                                                                                                  ∃ (b43 : Bool),
                                                                                                    v40 = Value.bool b43 ∧
                                                                                                      Later
                                                                                                        (bif b43 then
                                                                                                          Wc Try.prog 14 [Value.pointer p3] m41 k42 fun (v44 : Value) (m45 : Mem) (k46 : Nat) =>
                                                                                                            ∃ (x47 : Int),
                                                                                                              v44 = Value.int IntKind.i64 x47 ∧
                                                                                                                Later
                                                                                                                  (Wc Try.prog 9 [Value.int IntKind.i64 0] m45 k46 fun (v48 : Value) (m49 : Mem) (k50 : Nat) =>
                                                                                                                    ∃ (p51 : Option Addr),
                                                                                                                      ∃ (x52 : Int),
                                                                                                                        v48 = Value.tuple { toList := [Value.pointer p51, Value.int IntKind.i64 x52] } ∧
                                                                                                                          Later
                                                                                                                            (Wc Try.prog 9 [Value.int IntKind.i64 1001] m49 k50 fun (v53 : Value) (m54 : Mem) (k55 : Nat) =>
                                                                                                                              ∃ (p56 : Option Addr),
                                                                                                                                ∃ (x57 : Int),
                                                                                                                                  v53 = Value.tuple { toList := [Value.pointer p56, Value.int IntKind.i64 x57] } ∧
                                                                                                                                    Later
                                                                                                                                      (Wc Try.prog 15 [] m54 k55 fun (v58 : Value) (m59 : Mem) (k60 : Nat) =>
                                                                                                                                        ∃ (b61 : Bool),
                                                                                                                                          v58 = Value.bool b61 ∧
                                                                                                                                            Later
                                                                                                                                              (bif b61 then
                                                                                                                                                bif b20 then
                                                                                                                                                  bif x47 == 0 then bif x52 == 2 then Q (Value.bool (x57 == 2)) m59 k60 else Q (Value.bool false) m59 k60
                                                                                                                                                  else Q (Value.bool false) m59 k60
                                                                                                                                                else Q (Value.bool false) m59 k60
                                                                                                                                              else Q (Value.bool false) m59 k60))))
                                                                                                        else
                                                                                                          Wc Try.prog 9 [Value.int IntKind.i64 0] m41 k42 fun (v62 : Value) (m63 : Mem) (k64 : Nat) =>
                                                                                                            ∃ (p65 : Option Addr),
                                                                                                              ∃ (x66 : Int),
                                                                                                                v62 = Value.tuple { toList := [Value.pointer p65, Value.int IntKind.i64 x66] } ∧
                                                                                                                  Later
                                                                                                                    (Wc Try.prog 9 [Value.int IntKind.i64 1001] m63 k64 fun (v67 : Value) (m68 : Mem) (k69 : Nat) =>
                                                                                                                      ∃ (p70 : Option Addr),
                                                                                                                        ∃ (x71 : Int),
                                                                                                                          v67 = Value.tuple { toList := [Value.pointer p70, Value.int IntKind.i64 x71] } ∧
                                                                                                                            Later
                                                                                                                              (Wc Try.prog 15 [] m68 k69 fun (v72 : Value) (m73 : Mem) (k74 : Nat) =>
                                                                                                                                ∃ (b75 : Bool),
                                                                                                                                  v72 = Value.bool b75 ∧
                                                                                                                                    Later
                                                                                                                                      (bif b75 then bif b20 then Q (Value.bool false) m73 k74 else Q (Value.bool false) m73 k74
                                                                                                                                      else Q (Value.bool false) m73 k74))))
                                                                                              else
                                                                                                Wc Try.prog 9 [Value.int IntKind.i64 0] m37 k38 fun (v76 : Value) (m77 : Mem) (k78 : Nat) =>
                                                                                                  ∃ (p79 : Option Addr),
                                                                                                    ∃ (x80 : Int),
                                                                                                      v76 = Value.tuple { toList := [Value.pointer p79, Value.int IntKind.i64 x80] } ∧
                                                                                                        Later
                                                                                                          (Wc Try.prog 9 [Value.int IntKind.i64 1001] m77 k78 fun (v81 : Value) (m82 : Mem) (k83 : Nat) =>
                                                                                                            ∃ (p84 : Option Addr),
                                                                                                              ∃ (x85 : Int),
                                                                                                                v81 = Value.tuple { toList := [Value.pointer p84, Value.int IntKind.i64 x85] } ∧
                                                                                                                  Later
                                                                                                                    (Wc Try.prog 15 [] m82 k83 fun (v86 : Value) (m87 : Mem) (k88 : Nat) =>
                                                                                                                      ∃ (b89 : Bool),
                                                                                                                        v86 = Value.bool b89 ∧
                                                                                                                          Later
                                                                                                                            (bif b89 then bif b20 then Q (Value.bool false) m87 k88 else Q (Value.bool false) m87 k88
                                                                                                                            else Q (Value.bool false) m87 k88))))
                                                                                    else
                                                                                      Wc Try.prog 9 [Value.int IntKind.i64 0] m32 k33 fun (v90 : Value) (m91 : Mem) (k92 : Nat) =>
                                                                                        ∃ (p93 : Option Addr),
                                                                                          ∃ (x94 : Int),
                                                                                            v90 = Value.tuple { toList := [Value.pointer p93, Value.int IntKind.i64 x94] } ∧
                                                                                              Later
                                                                                                (Wc Try.prog 9 [Value.int IntKind.i64 1001] m91 k92 fun (v95 : Value) (m96 : Mem) (k97 : Nat) =>
                                                                                                  ∃ (p98 : Option Addr),
                                                                                                    ∃ (x99 : Int),
                                                                                                      v95 = Value.tuple { toList := [Value.pointer p98, Value.int IntKind.i64 x99] } ∧
                                                                                                        Later
                                                                                                          (Wc Try.prog 15 [] m96 k97 fun (v100 : Value) (m101 : Mem) (k102 : Nat) =>
                                                                                                            ∃ (b103 : Bool),
                                                                                                              v100 = Value.bool b103 ∧
                                                                                                                Later
                                                                                                                  (bif b103 then bif b20 then Q (Value.bool false) m101 k102 else Q (Value.bool false) m101 k102 else Q (Value.bool false) m101 k102)))
                                                                                  else
                                                                                    Wc Try.prog 9 [Value.int IntKind.i64 0] m32 k33 fun (v104 : Value) (m105 : Mem) (k106 : Nat) =>
                                                                                      ∃ (p107 : Option Addr),
                                                                                        ∃ (x108 : Int),
                                                                                          v104 = Value.tuple { toList := [Value.pointer p107, Value.int IntKind.i64 x108] } ∧
                                                                                            Later
                                                                                              (Wc Try.prog 9 [Value.int IntKind.i64 1001] m105 k106 fun (v109 : Value) (m110 : Mem) (k111 : Nat) =>
                                                                                                ∃ (p112 : Option Addr),
                                                                                                  ∃ (x113 : Int),
                                                                                                    v109 = Value.tuple { toList := [Value.pointer p112, Value.int IntKind.i64 x113] } ∧
                                                                                                      Later
                                                                                                        (Wc Try.prog 15 [] m110 k111 fun (v114 : Value) (m115 : Mem) (k116 : Nat) =>
                                                                                                          ∃ (b117 : Bool),
                                                                                                            v114 = Value.bool b117 ∧
                                                                                                              Later (bif b117 then bif b20 then Q (Value.bool false) m115 k116 else Q (Value.bool false) m115 k116 else Q (Value.bool false) m115 k116)))
                                                                                else
                                                                                  Wc Try.prog 9 [Value.int IntKind.i64 0] m32 k33 fun (v118 : Value) (m119 : Mem) (k120 : Nat) =>
                                                                                    ∃ (p121 : Option Addr),
                                                                                      ∃ (x122 : Int),
                                                                                        v118 = Value.tuple { toList := [Value.pointer p121, Value.int IntKind.i64 x122] } ∧
                                                                                          Later
                                                                                            (Wc Try.prog 9 [Value.int IntKind.i64 1001] m119 k120 fun (v123 : Value) (m124 : Mem) (k125 : Nat) =>
                                                                                              ∃ (p126 : Option Addr),
                                                                                                ∃ (x127 : Int),
                                                                                                  v123 = Value.tuple { toList := [Value.pointer p126, Value.int IntKind.i64 x127] } ∧
                                                                                                    Later
                                                                                                      (Wc Try.prog 15 [] m124 k125 fun (v128 : Value) (m129 : Mem) (k130 : Nat) =>
                                                                                                        ∃ (b131 : Bool),
                                                                                                          v128 = Value.bool b131 ∧
                                                                                                            Later
                                                                                                              (bif b131 then bif b20 then Q (Value.bool false) m129 k130 else Q (Value.bool false) m129 k130 else Q (Value.bool false) m129 k130)))))))
                                        else
                                          Wc Try.prog 11 [Value.pointer p3, Value.int IntKind.i64 16, Value.bool true] m14 k15 fun (v132 : Value) (m133 : Mem) (k134 : Nat) =>
                                            ∃ (b135 : Bool),
                                              ∃ (x136 : Int),
                                                v132 = Value.tuple { toList := [Value.bool b135, Value.int IntKind.i64 x136] } ∧
                                                  Later
                                                    (Wc Try.prog 11 [Value.pointer p3, Value.int IntKind.i64 (-1), Value.bool true] m133 k134 fun (v137 : Value) (m138 : Mem) (k139 : Nat) =>
                                                      ∃ (b140 : Bool),
                                                        ∃ (x141 : Int),
                                                          v137 = Value.tuple { toList := [Value.bool b140, Value.int IntKind.i64 x141] } ∧
                                                            Later
                                                              (Wc Try.prog 12 [Value.pointer p3] m138 k139 fun (v142 : Value) (m143 : Mem) (k144 : Nat) =>
                                                                ∃ (x145 : Int),
                                                                  ∃ (b146 : Bool),
                                                                    v142 = Value.tuple { toList := [Value.int IntKind.i64 x145, Value.bool b146] } ∧
                                                                      Later
                                                                        (bif x136 == 20 then
                                                                          bif x141 == 2 then
                                                                            bif !b146 then
                                                                              Wc Try.prog 13 [Value.pointer p3] m143 k144 fun (v147 : Value) (m148 : Mem) (k149 : Nat) =>
                                                                                ∃ (x150 : Int),
                                                                                  v147 = Value.int IntKind.i64 x150 ∧
                                                                                    Later
                                                                                      (bif x150 == 0 then
                                                                                        Wc Try.prog 10
                                                                                          [Value.pointer p3, Value.int IntKind.i64 3, Value.slice (some { block := k149, off := 0 }) 1 1, Value.slice (some { block := k149 + 1, off := 0 }) 1 1]
                                                                                          ((Tr.set m148 k149 (AObj.cells none 4 1 [Value.bool true])).set (k149 + 1) (AObj.cells none 4 1 [Value.bool false])) (k149 + 1 + 1)
                                                                                          fun (v151 : Value) (m152 : Mem) (k153 : Nat) =>
                                                                                          ∃ (b154 : Bool),
                                                                                            v151 = Value.bool b154 ∧
                                                                                              Later
                                                                                                (bif b154 then
                                                                                                  Wc Try.prog 14 [Value.pointer p3] m152 k153 fun (v155 : Value) (m156 : Mem) (k157 : Nat) =>
                                                                                                    ∃ (x158 : Int),
                                                                                                      v155 = Value.int IntKind.i64 x158 ∧
                                                                                                        Later
                                                                                                          (Wc Try.prog 9 [Value.int IntKind.i64 0] m156 k157 fun (v159 : Value) (m160 : Mem) (k161 : Nat) =>
                                                                                                            ∃ (p162 : Option Addr),
                                                                                                              ∃ (x163 : Int),
                                                                                                                v159 = Value.tuple { toList := [Value.pointer p162, Value.int IntKind.i64 x163] } ∧
                                                                                                                  Later
                                                                                                                    (Wc Try.prog 9 [Value.int IntKind.i64 1001] m160 k161 fun (v164 : Value) (m165 : Mem) (k166 : Nat) =>
                                                                                                                      ∃ (p167 : Option Addr),
                                                                                                                        ∃ (x168 : Int),
                                                                                                                          v164 = Value.tuple { toList := [Value.pointer p167, Value.int IntKind.i64 x168] } ∧
                                                                                                                            Later
                                                                                                                              (Wc Try.prog 15 [] m165 k166 fun (v169 : Value) (m170 : Mem) (k171 : Nat) =>
                                                                                                                                ∃ (b172 : Bool),
                                                                                                                                  v169 = Value.bool b172 ∧ Later (bif b172 then Q (Value.bool false) m170 k171 else Q (Value.bool false) m170 k171))))
                                                                                                else
                                                                                                  Wc Try.prog 9 [Value.int IntKind.i64 0] m152 k153 fun (v173 : Value) (m174 : Mem) (k175 : Nat) =>
                                                                                                    ∃ (p176 : Option Addr),
                                                                                                      ∃ (x177 : Int),
                                                                                                        v173 = Value.tuple { toList := [Value.pointer p176, Value.int IntKind.i64 x177] } ∧
                                                                                                          Later
                                                                                                            (Wc Try.prog 9 [Value.int IntKind.i64 1001] m174 k175 fun (v178 : Value) (m179 : Mem) (k180 : Nat) =>
                                                                                                              ∃ (p181 : Option Addr),
                                                                                                                ∃ (x182 : Int),
                                                                                                                  v178 = Value.tuple { toList := [Value.pointer p181, Value.int IntKind.i64 x182] } ∧
                                                                                                                    Later
                                                                                                                      (Wc Try.prog 15 [] m179 k180 fun (v183 : Value) (m184 : Mem) (k185 : Nat) =>
                                                                                                                        ∃ (b186 : Bool),
                                                                                                                          v183 = Value.bool b186 ∧ Later (bif b186 then Q (Value.bool false) m184 k185 else Q (Value.bool false) m184 k185))))
                                                                                      else
                                                                                        Wc Try.prog 9 [Value.int IntKind.i64 0] m148 k149 fun (v187 : Value) (m188 : Mem) (k189 : Nat) =>
                                                                                          ∃ (p190 : Option Addr),
                                                                                            ∃ (x191 : Int),
                                                                                              v187 = Value.tuple { toList := [Value.pointer p190, Value.int IntKind.i64 x191] } ∧
                                                                                                Later
                                                                                                  (Wc Try.prog 9 [Value.int IntKind.i64 1001] m188 k189 fun (v192 : Value) (m193 : Mem) (k194 : Nat) =>
                                                                                                    ∃ (p195 : Option Addr),
                                                                                                      ∃ (x196 : Int),
                                                                                                        v192 = Value.tuple { toList := [Value.pointer p195, Value.int IntKind.i64 x196] } ∧
                                                                                                          Later
                                                                                                            (Wc Try.prog 15 [] m193 k194 fun (v197 : Value) (m198 : Mem) (k199 : Nat) =>
                                                                                                              ∃ (b200 : Bool), v197 = Value.bool b200 ∧ Later (bif b200 then Q (Value.bool false) m198 k199 else Q (Value.bool false) m198 k199))))
                                                                            else
                                                                              Wc Try.prog 9 [Value.int IntKind.i64 0] m143 k144 fun (v201 : Value) (m202 : Mem) (k203 : Nat) =>
                                                                                ∃ (p204 : Option Addr),
                                                                                  ∃ (x205 : Int),
                                                                                    v201 = Value.tuple { toList := [Value.pointer p204, Value.int IntKind.i64 x205] } ∧
                                                                                      Later
                                                                                        (Wc Try.prog 9 [Value.int IntKind.i64 1001] m202 k203 fun (v206 : Value) (m207 : Mem) (k208 : Nat) =>
                                                                                          ∃ (p209 : Option Addr),
                                                                                            ∃ (x210 : Int),
                                                                                              v206 = Value.tuple { toList := [Value.pointer p209, Value.int IntKind.i64 x210] } ∧
                                                                                                Later
                                                                                                  (Wc Try.prog 15 [] m207 k208 fun (v211 : Value) (m212 : Mem) (k213 : Nat) =>
                                                                                                    ∃ (b214 : Bool), v211 = Value.bool b214 ∧ Later (bif b214 then Q (Value.bool false) m212 k213 else Q (Value.bool false) m212 k213)))
                                                                          else
                                                                            Wc Try.prog 9 [Value.int IntKind.i64 0] m143 k144 fun (v215 : Value) (m216 : Mem) (k217 : Nat) =>
                                                                              ∃ (p218 : Option Addr),
                                                                                ∃ (x219 : Int),
                                                                                  v215 = Value.tuple { toList := [Value.pointer p218, Value.int IntKind.i64 x219] } ∧
                                                                                    Later
                                                                                      (Wc Try.prog 9 [Value.int IntKind.i64 1001] m216 k217 fun (v220 : Value) (m221 : Mem) (k222 : Nat) =>
                                                                                        ∃ (p223 : Option Addr),
                                                                                          ∃ (x224 : Int),
                                                                                            v220 = Value.tuple { toList := [Value.pointer p223, Value.int IntKind.i64 x224] } ∧
                                                                                              Later
                                                                                                (Wc Try.prog 15 [] m221 k222 fun (v225 : Value) (m226 : Mem) (k227 : Nat) =>
                                                                                                  ∃ (b228 : Bool), v225 = Value.bool b228 ∧ Later (bif b228 then Q (Value.bool false) m226 k227 else Q (Value.bool false) m226 k227)))
                                                                        else
                                                                          Wc Try.prog 9 [Value.int IntKind.i64 0] m143 k144 fun (v229 : Value) (m230 : Mem) (k231 : Nat) =>
                                                                            ∃ (p232 : Option Addr),
                                                                              ∃ (x233 : Int),
                                                                                v229 = Value.tuple { toList := [Value.pointer p232, Value.int IntKind.i64 x233] } ∧
                                                                                  Later
                                                                                    (Wc Try.prog 9 [Value.int IntKind.i64 1001] m230 k231 fun (v234 : Value) (m235 : Mem) (k236 : Nat) =>
                                                                                      ∃ (p237 : Option Addr),
                                                                                        ∃ (x238 : Int),
                                                                                          v234 = Value.tuple { toList := [Value.pointer p237, Value.int IntKind.i64 x238] } ∧
                                                                                            Later
                                                                                              (Wc Try.prog 15 [] m235 k236 fun (v239 : Value) (m240 : Mem) (k241 : Nat) =>
                                                                                                ∃ (b242 : Bool), v239 = Value.bool b242 ∧ Later (bif b242 then Q (Value.bool false) m240 k241 else Q (Value.bool false) m240 k241)))))))
                              else
                                Wc Try.prog 11 [Value.pointer p3, Value.int IntKind.i64 16, Value.bool true] m10 k11 fun (v243 : Value) (m244 : Mem) (k245 : Nat) =>
                                  ∃ (b246 : Bool),
                                    ∃ (x247 : Int),
                                      v243 = Value.tuple { toList := [Value.bool b246, Value.int IntKind.i64 x247] } ∧
                                        Later
                                          (Wc Try.prog 11 [Value.pointer p3, Value.int IntKind.i64 (-1), Value.bool true] m244 k245 fun (v248 : Value) (m249 : Mem) (k250 : Nat) =>
                                            ∃ (b251 : Bool),
                                              ∃ (x252 : Int),
                                                v248 = Value.tuple { toList := [Value.bool b251, Value.int IntKind.i64 x252] } ∧
                                                  Later
                                                    (Wc Try.prog 12 [Value.pointer p3] m249 k250 fun (v253 : Value) (m254 : Mem) (k255 : Nat) =>
                                                      ∃ (x256 : Int),
                                                        ∃ (b257 : Bool),
                                                          v253 = Value.tuple { toList := [Value.int IntKind.i64 x256, Value.bool b257] } ∧
                                                            Later
                                                              (bif x247 == 20 then
                                                                bif x252 == 2 then
                                                                  bif !b257 then
                                                                    Wc Try.prog 13 [Value.pointer p3] m254 k255 fun (v258 : Value) (m259 : Mem) (k260 : Nat) =>
                                                                      ∃ (x261 : Int),
                                                                        v258 = Value.int IntKind.i64 x261 ∧
                                                                          Later
                                                                            (bif x261 == 0 then
                                                                              Wc Try.prog 10 [Value.pointer p3, Value.int IntKind.i64 3, Value.slice (some { block := k260, off := 0 }) 1 1, Value.slice (some { block := k260 + 1, off := 0 }) 1 1]
                                                                                ((Tr.set m259 k260 (AObj.cells none 4 1 [Value.bool true])).set (k260 + 1) (AObj.cells none 4 1 [Value.bool false])) (k260 + 1 + 1)
                                                                                fun (v262 : Value) (m263 : Mem) (k264 : Nat) =>
                                                                                ∃ (b265 : Bool),
                                                                                  v262 = Value.bool b265 ∧
                                                                                    Later
                                                                                      (bif b265 then
                                                                                        Wc Try.prog 14 [Value.pointer p3] m263 k264 fun (v266 : Value) (m267 : Mem) (k268 : Nat) =>
                                                                                          ∃ (x269 : Int),
                                                                                            v266 = Value.int IntKind.i64 x269 ∧
                                                                                              Later
                                                                                                (Wc Try.prog 9 [Value.int IntKind.i64 0] m267 k268 fun (v270 : Value) (m271 : Mem) (k272 : Nat) =>
                                                                                                  ∃ (p273 : Option Addr),
                                                                                                    ∃ (x274 : Int),
                                                                                                      v270 = Value.tuple { toList := [Value.pointer p273, Value.int IntKind.i64 x274] } ∧
                                                                                                        Later
                                                                                                          (Wc Try.prog 9 [Value.int IntKind.i64 1001] m271 k272 fun (v275 : Value) (m276 : Mem) (k277 : Nat) =>
                                                                                                            ∃ (p278 : Option Addr),
                                                                                                              ∃ (x279 : Int),
                                                                                                                v275 = Value.tuple { toList := [Value.pointer p278, Value.int IntKind.i64 x279] } ∧
                                                                                                                  Later
                                                                                                                    (Wc Try.prog 15 [] m276 k277 fun (v280 : Value) (m281 : Mem) (k282 : Nat) =>
                                                                                                                      ∃ (b283 : Bool),
                                                                                                                        v280 = Value.bool b283 ∧ Later (bif b283 then Q (Value.bool false) m281 k282 else Q (Value.bool false) m281 k282))))
                                                                                      else
                                                                                        Wc Try.prog 9 [Value.int IntKind.i64 0] m263 k264 fun (v284 : Value) (m285 : Mem) (k286 : Nat) =>
                                                                                          ∃ (p287 : Option Addr),
                                                                                            ∃ (x288 : Int),
                                                                                              v284 = Value.tuple { toList := [Value.pointer p287, Value.int IntKind.i64 x288] } ∧
                                                                                                Later
                                                                                                  (Wc Try.prog 9 [Value.int IntKind.i64 1001] m285 k286 fun (v289 : Value) (m290 : Mem) (k291 : Nat) =>
                                                                                                    ∃ (p292 : Option Addr),
                                                                                                      ∃ (x293 : Int),
                                                                                                        v289 = Value.tuple { toList := [Value.pointer p292, Value.int IntKind.i64 x293] } ∧
                                                                                                          Later
                                                                                                            (Wc Try.prog 15 [] m290 k291 fun (v294 : Value) (m295 : Mem) (k296 : Nat) =>
                                                                                                              ∃ (b297 : Bool), v294 = Value.bool b297 ∧ Later (bif b297 then Q (Value.bool false) m295 k296 else Q (Value.bool false) m295 k296))))
                                                                            else
                                                                              Wc Try.prog 9 [Value.int IntKind.i64 0] m259 k260 fun (v298 : Value) (m299 : Mem) (k300 : Nat) =>
                                                                                ∃ (p301 : Option Addr),
                                                                                  ∃ (x302 : Int),
                                                                                    v298 = Value.tuple { toList := [Value.pointer p301, Value.int IntKind.i64 x302] } ∧
                                                                                      Later
                                                                                        (Wc Try.prog 9 [Value.int IntKind.i64 1001] m299 k300 fun (v303 : Value) (m304 : Mem) (k305 : Nat) =>
                                                                                          ∃ (p306 : Option Addr),
                                                                                            ∃ (x307 : Int),
                                                                                              v303 = Value.tuple { toList := [Value.pointer p306, Value.int IntKind.i64 x307] } ∧
                                                                                                Later
                                                                                                  (Wc Try.prog 15 [] m304 k305 fun (v308 : Value) (m309 : Mem) (k310 : Nat) =>
                                                                                                    ∃ (b311 : Bool), v308 = Value.bool b311 ∧ Later (bif b311 then Q (Value.bool false) m309 k310 else Q (Value.bool false) m309 k310))))
                                                                  else
                                                                    Wc Try.prog 9 [Value.int IntKind.i64 0] m254 k255 fun (v312 : Value) (m313 : Mem) (k314 : Nat) =>
                                                                      ∃ (p315 : Option Addr),
                                                                        ∃ (x316 : Int),
                                                                          v312 = Value.tuple { toList := [Value.pointer p315, Value.int IntKind.i64 x316] } ∧
                                                                            Later
                                                                              (Wc Try.prog 9 [Value.int IntKind.i64 1001] m313 k314 fun (v317 : Value) (m318 : Mem) (k319 : Nat) =>
                                                                                ∃ (p320 : Option Addr),
                                                                                  ∃ (x321 : Int),
                                                                                    v317 = Value.tuple { toList := [Value.pointer p320, Value.int IntKind.i64 x321] } ∧
                                                                                      Later
                                                                                        (Wc Try.prog 15 [] m318 k319 fun (v322 : Value) (m323 : Mem) (k324 : Nat) =>
                                                                                          ∃ (b325 : Bool), v322 = Value.bool b325 ∧ Later (bif b325 then Q (Value.bool false) m323 k324 else Q (Value.bool false) m323 k324)))
                                                                else
                                                                  Wc Try.prog 9 [Value.int IntKind.i64 0] m254 k255 fun (v326 : Value) (m327 : Mem) (k328 : Nat) =>
                                                                    ∃ (p329 : Option Addr),
                                                                      ∃ (x330 : Int),
                                                                        v326 = Value.tuple { toList := [Value.pointer p329, Value.int IntKind.i64 x330] } ∧
                                                                          Later
                                                                            (Wc Try.prog 9 [Value.int IntKind.i64 1001] m327 k328 fun (v331 : Value) (m332 : Mem) (k333 : Nat) =>
                                                                              ∃ (p334 : Option Addr),
                                                                                ∃ (x335 : Int),
                                                                                  v331 = Value.tuple { toList := [Value.pointer p334, Value.int IntKind.i64 x335] } ∧
                                                                                    Later
                                                                                      (Wc Try.prog 15 [] m332 k333 fun (v336 : Value) (m337 : Mem) (k338 : Nat) =>
                                                                                        ∃ (b339 : Bool), v336 = Value.bool b339 ∧ Later (bif b339 then Q (Value.bool false) m337 k338 else Q (Value.bool false) m337 k338)))
                                                              else
                                                                Wc Try.prog 9 [Value.int IntKind.i64 0] m254 k255 fun (v340 : Value) (m341 : Mem) (k342 : Nat) =>
                                                                  ∃ (p343 : Option Addr),
                                                                    ∃ (x344 : Int),
                                                                      v340 = Value.tuple { toList := [Value.pointer p343, Value.int IntKind.i64 x344] } ∧
                                                                        Later
                                                                          (Wc Try.prog 9 [Value.int IntKind.i64 1001] m341 k342 fun (v345 : Value) (m346 : Mem) (k347 : Nat) =>
                                                                            ∃ (p348 : Option Addr),
                                                                              ∃ (x349 : Int),
                                                                                v345 = Value.tuple { toList := [Value.pointer p348, Value.int IntKind.i64 x349] } ∧
                                                                                  Later
                                                                                    (Wc Try.prog 15 [] m346 k347 fun (v350 : Value) (m351 : Mem) (k352 : Nat) =>
                                                                                      ∃ (b353 : Bool), v350 = Value.bool b353 ∧ Later (bif b353 then Q (Value.bool false) m351 k352 else Q (Value.bool false) m351 k352)))))))))) := by kernel_rfl

end Go.Proofs.Ytpiiddoccloghaa
