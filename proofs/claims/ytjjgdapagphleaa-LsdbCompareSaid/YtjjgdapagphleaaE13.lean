/- E13: what parts of the program compute; helper of the claim. -/
import Derived.Test.YtjjgdapagphleaaProg
import Derived.KernelRfl
import Derived.Test.YtjjgdapagphleaaAb33
namespace Go.Proofs.Ytjjgdapagphleaa
open Go Go.Ab
set_option maxRecDepth 100000
abbrev fLaw13LsdbCompare : Nat := 3
abbrev fLaw13LsdbKnown : Nat := 4
abbrev fLaw13LsdbOrder : Nat := 5
abbrev fLaw13LsdbFloods : Nat := 6
abbrev fLaw13LsdbScript : Nat := 7
abbrev fLaw13LsdbNone : Nat := 8
abbrev fLaw13awake : Nat := 9
abbrev fKitOwnint : Nat := 10
abbrev fLsdbCheck : Nat := 11
abbrev fRef13Check : Nat := 12
abbrev fLsdbCompare : Nat := 13
abbrev fRef13Compare : Nat := 14
abbrev fLaw13equal : Nat := 15
abbrev fLsdbNew : Nat := 16
abbrev fLsdbDBAll : Nat := 17
abbrev fLaw13owns : Nat := 18
abbrev fLaw13rec : Nat := 19
abbrev fLaw13takes : Nat := 20
abbrev fLaw13records : Nat := 21
abbrev fLaw13has : Nat := 22
abbrev fKitHasbool : Nat := 23
abbrev fLsdbDBView : Nat := 24
abbrev fKitSamebool : Nat := 25
abbrev fLsdbDBReceive : Nat := 26
abbrev fLaw13light : Nat := 27
abbrev fKitPick : Nat := 28
abbrev fLaw13young : Nat := 29
abbrev fLaw13begun : Nat := 30
abbrev fLaw13spread : Nat := 31
abbrev fLsdbDBGet : Nat := 32
abbrev fLaw13joined : Nat := 33
abbrev fKitSameint : Nat := 34
abbrev fRef13New : Nat := 35
abbrev fLsdbDBOwn : Nat := 36
abbrev fRef13DBOwn : Nat := 37
abbrev fLaw13over : Nat := 38
abbrev fLsdbDBCopy : Nat := 39
abbrev fRef13DBCopy : Nat := 40
abbrev fRef13DBReceive : Nat := 41
abbrev fLaw13same : Nat := 42
abbrev fLsdbordered : Nat := 43
abbrev fRef13links : Nat := 44
abbrev fCmpOrint : Nat := 45
abbrev fCmpCompareint : Nat := 46
abbrev fSlicesCompareLintint : Nat := 47
abbrev fRef13compare : Nat := 48
abbrev fLsdbDBvalid : Nat := 49
abbrev fSlicesSortedint : Nat := 50
abbrev fMapsKeysmapintapiRecordintapiRecord : Nat := 51
abbrev fLsdbown : Nat := 52
abbrev fLsdbstatelists : Nat := 53
abbrev fLsdbDBReceive1 : Nat := 54
abbrev fLsdbstateoriginate : Nat := 55
abbrev fSlicesEqualLintint : Nat := 56
abbrev fRef13own : Nat := 57
abbrev fRef13DBAll : Nat := 58
abbrev fRef13DBView : Nat := 59
abbrev fRef13DBGet : Nat := 60
abbrev fCmpisNaNint : Nat := 61
abbrev fSlicesCollectint : Nat := 62
abbrev fSlicesSortLintint : Nat := 63
abbrev fMapsKeysmapintapiRecordintapiRecord1 : Nat := 64
abbrev fSlicesCloneLintint : Nat := 65
abbrev fSlicesBinarySearchLintint : Nat := 66
abbrev fRef13DBlists : Nat := 67
abbrev fSlicesAppendSeqLintint : Nat := 68
abbrev fSlicespdqsortOrderedint : Nat := 69
abbrev fMathbitsLen : Nat := 70
abbrev fCmpLessint : Nat := 71
abbrev fSlicesisNaNint : Nat := 72
abbrev fSlicesinsertionSortOrderedint : Nat := 73
abbrev fSlicesheapSortOrderedint : Nat := 74
abbrev fSlicesbreakPatternsOrderedint : Nat := 75
abbrev fSliceschoosePivotOrderedint : Nat := 76
abbrev fSlicesreverseRangeOrderedint : Nat := 77
abbrev fSlicespartialInsertionSortOrderedint : Nat := 78
abbrev fSlicespartitionEqualOrderedint : Nat := 79
abbrev fSlicespartitionOrderedint : Nat := 80
abbrev fMathbitsLen32 : Nat := 81
abbrev fMathbitsLen64 : Nat := 82
abbrev fSlicessiftDownOrderedint : Nat := 83
abbrev fSlicesnextPowerOfTwo : Nat := 84
abbrev fSlicesxorshiftNext : Nat := 85
abbrev fSlicesmedianAdjacentOrderedint : Nat := 86
abbrev fSlicesmedianOrderedint : Nat := 87
abbrev fSlicesorder2Orderedint : Nat := 88
abbrev t : Nat := 0
abbrev tFunc : Nat := 1
abbrev tInt64 : Nat := 2
abbrev tInt : Nat := 3
abbrev tBool : Nat := 4
abbrev tUint8 : Nat := 5
abbrev tAbiBoundsErrorCode : Nat := 6
abbrev tStructxint64yintsignedboolcodeabiBoundsErrorCode : Nat := 7
abbrev tRuntimeboundsError : Nat := 8
abbrev tString : Nat := 9
abbrev tRuntimeerrorString : Nat := 10
abbrev tRuntimeplainError : Nat := 11
abbrev tUintptr : Nat := 12
abbrev tStructmsgstringaddruintptr : Nat := 13
abbrev tRuntimeerrorAddressString : Nat := 14
abbrev tPruntimeTypeAssertionError : Nat := 15
abbrev tPruntimePanicNilError : Nat := 16
abbrev tPabiType : Nat := 17
abbrev tStructtypPabiType : Nat := 18
abbrev tMapsunhashableTypeError : Nat := 19
abbrev tInterface : Nat := 20
abbrev tInt32 : Nat := 21
abbrev tLint : Nat := 22
abbrev tStructNodeintSeqintLinksLint : Nat := 23
abbrev tApiRecord : Nat := 24
abbrev tFuncbool : Nat := 25
abbrev tFuncLintLint : Nat := 26
abbrev tApiErrno : Nat := 27
abbrev tFuncintapiRecordapiErrno : Nat := 28
abbrev tFuncapiRecordapiRecordint : Nat := 29
abbrev tFuncapiRecordapiRecordbool : Nat := 30
abbrev tFuncintapiRecordapiRecordbool : Nat := 31
abbrev tPlsdbDB : Nat := 32
abbrev tLsdbDBapiErrno : Nat := 33
abbrev tFuncintintlsdbDBapiErrno : Nat := 34
abbrev tLapiRecord : Nat := 35
abbrev tFuncLapiRecord : Nat := 36
abbrev tFunclsdbDBLintapiRecordboolbool : Nat := 37
abbrev tFuncintintintapiRecord : Nat := 38
abbrev tFunclsdbDBapiRecordintbool : Nat := 39
abbrev tFuncLapiRecordLapiRecordbool : Nat := 40
abbrev tFunclsdbDBapiRecordbool : Nat := 41
abbrev tLapiLink : Nat := 42
abbrev tStructAintBintCostint : Nat := 43
abbrev tApiLink : Nat := 44
abbrev tFuncLboolboolbool : Nat := 45
abbrev tLbool : Nat := 46
abbrev tFuncLapiLinkLbool : Nat := 47
abbrev tFuncLboolLboolbool : Nat := 48
abbrev tIntapiErrno : Nat := 49
abbrev tFuncapiRecordintapiErrno : Nat := 50
abbrev tFuncLapiRecordbool : Nat := 51
abbrev tFuncintintint : Nat := 52
abbrev tFuncLapiRecordLintbool : Nat := 53
abbrev tLPlsdbDB : Nat := 54
abbrev tLlaw13message : Nat := 55
abbrev tFuncintLapiRecordLintPlsdbDB : Nat := 56
abbrev tFuncLboolintintLapiRecordLlaw13message : Nat := 57
abbrev tStructfrominttointrapiRecord : Nat := 58
abbrev tLaw13message : Nat := 59
abbrev tApiRecordbool : Nat := 60
abbrev tFuncintapiRecordbool : Nat := 61
abbrev tFuncLboolintintbool : Nat := 62
abbrev tFuncLintLintbool : Nat := 63
abbrev tFuncLboolLapiRecordLintLintbool : Nat := 64
abbrev tLlaw13Act : Nat := 65
abbrev tPref13DB : Nat := 66
abbrev tRef13DBapiErrno : Nat := 67
abbrev tFuncintintref13DBapiErrno : Nat := 68
abbrev tStructKindintRapiRecord : Nat := 69
abbrev tLaw13Act : Nat := 70
abbrev tApiRecordboolapiErrno : Nat := 71
abbrev tFuncLintapiRecordboolapiErrno : Nat := 72
abbrev tFuncapiRecord : Nat := 73
abbrev tFuncPlsdbDB : Nat := 74
abbrev tFuncPref13DB : Nat := 75
abbrev tFunclsdbDBPref13DBLapiLinkbool : Nat := 76
abbrev tFuncintintLapiLinkLlaw13Actbool : Nat := 77
abbrev tPlsdbstate : Nat := 78
abbrev tStructPlsdbstate : Nat := 79
abbrev tLsdbDB : Nat := 80
abbrev tFuncapiRecordbool : Nat := 81
abbrev tFuncLintapiErrno : Nat := 82
abbrev tFuncintint : Nat := 83
abbrev tFuncLintLintint : Nat := 84
abbrev tMapintapiRecord : Nat := 85
abbrev tStructnodesintnodeintlastintrecordsmapintapiRecord : Nat := 86
abbrev tLsdbstate : Nat := 87
abbrev tFunciterSeqintLint : Nat := 88
abbrev tFuncfuncintbool : Nat := 89
abbrev tIterSeqint : Nat := 90
abbrev tFuncmapintapiRecorditerSeqint : Nat := 91
abbrev tFuncapiRecordapiRecord : Nat := 92
abbrev tFuncintintbool : Nat := 93
abbrev tStructmineboolknownboolorderint : Nat := 94
abbrev tLsdbmeeting : Nat := 95
abbrev tFunclsdbmeetingbool : Nat := 96
abbrev tFuncintLint : Nat := 97
abbrev tStructNintNodeintRLapiRecordLastint : Nat := 98
abbrev tRef13DB : Nat := 99
abbrev tFuncintbool : Nat := 100
abbrev tFuncLint : Nat := 101
abbrev tIntbool : Nat := 102
abbrev tFuncLintintintbool : Nat := 103
abbrev tFuncLintiterSeqintLint : Nat := 104
abbrev tFuncLintintintint : Nat := 105
abbrev tFuncuintint : Nat := 106
abbrev tUint : Nat := 107
abbrev tFuncLintintint : Nat := 108
abbrev tSlicessortedHint : Nat := 109
abbrev tIntslicessortedHint : Nat := 110
abbrev tFuncLintintintintslicessortedHint : Nat := 111
abbrev tFuncLintintintboolv1 : Nat := 112
abbrev tFuncLintintintintint : Nat := 113
abbrev tFuncLintintintintintbool : Nat := 114
abbrev tFuncuint32int : Nat := 115
abbrev tUint32 : Nat := 116
abbrev tFuncuint64int : Nat := 117
abbrev tUint64 : Nat := 118
abbrev tSlicesxorshift : Nat := 119
abbrev tFuncintuint : Nat := 120
abbrev tFuncuint64 : Nat := 121
abbrev tFuncLintintPintint : Nat := 122
abbrev tPint : Nat := 123
abbrev tFuncLintintintintPintint : Nat := 124
abbrev tPslicesxorshift : Nat := 125
abbrev tIntint : Nat := 126
abbrev tFuncLintintintPintintint : Nat := 127
abbrev tFuncstring : Nat := 128
abbrev tStructinterfacePabiTypeconcretePabiTypeassertedPabiTypemissingMethodstring : Nat := 129
abbrev tRuntimeTypeAssertionError : Nat := 130
abbrev t0PruntimePanicNilError : Nat := 131
abbrev tStruct0PruntimePanicNilError : Nat := 132
abbrev tRuntimePanicNilError : Nat := 133
abbrev tFuncint : Nat := 134
abbrev tAbiTFlag : Nat := 135
abbrev tAbiKind : Nat := 136
abbrev tFuncunsafePointerunsafePointerbool : Nat := 137
abbrev tPuint8 : Nat := 138
abbrev tAbiNameOff : Nat := 139
abbrev tAbiTypeOff : Nat := 140
abbrev tStructSizeuintptrPtrBytesuintptrHashuint32TFlagabiTFlagAlignuint8FieldAlignuint8KindabiKindEqualfuncunsafePointerunsafePointerboolGCDataPuint8StrabiNameOffPtrToThisabiTypeOff : Nat := 141
abbrev tAbiType : Nat := 142
abbrev tUnsafePointer : Nat := 143
noncomputable def xcfg : Cfg := mkCfg [] [(3, [(0, [0, 4, 5]), (1, [0, 4, 5, 18]), (2, [6]), (3, [0, 4, 5, 7, 8]), (4, [0, 4, 5, 7, 8]), (5, [6])]), (10, [(0, [0]), (1, [2])]), (11, [(0, [0, 3]), (1, [3, 23]), (2, [4]), (3, [4])]), (12, [(0, [0, 3]), (1, [3, 23]), (2, [4]), (3, [4])]), (13, [(0, [2, 3]), (1, [4])]), (14, [(0, [2, 3]), (1, [2, 3, 5]), (2, [4]), (3, [2, 3, 11]), (4, [4]), (5, [4])]), (15, [(0, [2, 3]), (1, [4])]), (28, [(0, [0, 1]), (1, [0, 1]), (2, [0, 1, 9]), (3, [0]), (4, [4])]), (34, [(0, [0, 1]), (1, [0, 1, 10]), (2, [4]), (3, [0, 1, 5]), (4, [0, 1, 5, 14]), (5, [0, 1, 5]), (6, [0, 1, 5, 25]), (7, [4]), (8, [4]), (1000004, [0, 1, 5])]), (43, [(0, [0]), (1, [0, 5, 6, 7]), (2, [0, 5, 6, 7, 8]), (3, [0, 3, 4, 5, 6, 7]), (4, [0, 3, 4, 5, 6, 7, 12]), (5, [2]), (6, [0, 5, 6, 7, 19]), (7, [2]), (8, [0, 5, 6, 7]), (9, [2]), (1000002, [0, 5, 6, 7])]), (44, [(0, [0]), (1, [0, 3]), (2, [0, 3, 7]), (3, [0, 3]), (4, [0, 3, 21]), (5, [2]), (6, [0, 3, 35]), (7, [2]), (8, [2]), (1000002, [0, 3])]), (45, [(0, [0]), (1, [0, 3]), (2, [3, 6, 7, 8]), (3, [3, 6, 7, 8, 9]), (4, [3, 5, 6, 7, 8]), (5, [3, 5, 6, 7, 8, 14]), (6, [2]), (7, [3, 6, 7, 8]), (8, [2]), (1000003, [3, 6, 7, 8])]), (46, [(0, [0, 1]), (1, [0, 1, 5]), (2, [0, 1, 5, 6]), (3, [0, 1, 6, 11]), (4, [12]), (5, [4]), (6, [4]), (7, [0, 1, 13]), (8, [4]), (9, [0, 1, 16]), (10, [4]), (11, [19]), (12, [4]), (13, [4])]), (47, [(0, [0, 1]), (1, [0, 1, 9, 10, 11]), (2, [0, 1, 9, 10, 11, 12]), (3, [0, 1, 5, 6, 9, 10, 11]), (4, [0, 1, 5, 6, 9, 10, 11, 19]), (5, [4]), (6, [0, 1, 6, 7, 9, 10, 11]), (7, [0, 1, 8, 9, 10, 11]), (8, [0, 1, 8, 9, 10, 11, 28]), (9, [4]), (10, [0, 1, 9, 10, 11]), (11, [35]), (12, [4]), (13, [4]), (1000002, [0, 1, 9, 10, 11])]), (48, [(0, [0, 1]), (1, [0, 1, 5]), (2, [0, 1, 5, 15]), (3, [0, 1, 5]), (4, [0, 1, 5, 26]), (5, [4]), (6, [0, 1, 5, 35]), (7, [4]), (8, [0, 1, 36]), (9, [4]), (10, [42]), (11, [4]), (12, [4]), (1000002, [0, 1, 5])]), (61, [(0, [0]), (1, [2])])] [] [(3, [500005])]
/- 3 leafmesh/leafmeshlaw13.LsdbCompare -/
theorem xLaw13LsdbCompare (m : Mem) (n : Nat) (Q : Value → Mem → Nat → Prop) (nodes : Int) (a0 : Int) (a1 : Int) (a2_a : Option Addr) (a2_l : Nat) (a2_c : Nat) (b0 : Int) (b1 : Int) (b2_a : Option Addr) (b2_l : Nat) (b2_c : Nat) :
 Xc Try.prog xcfg 400 fLaw13LsdbCompare [Value.int IntKind.i64 nodes, Value.agg { toList := [Value.int IntKind.i64 a0, Value.int IntKind.i64 a1, Value.slice a2_a a2_l a2_c] }, Value.agg { toList := [Value.int IntKind.i64 b0, Value.int IntKind.i64 b1, Value.slice b2_a b2_l b2_c] }] m n Q =
 (memLet (Tr.set m n (AObj.cells none tApiRecord 3 [Value.int IntKind.i64 a0, Value.int IntKind.i64 a1, Value.slice a2_a a2_l a2_c])) fun (m0 : Mem) =>
 memLet (Tr.set m0 (n + 1) (AObj.cells none tApiRecord 3 [Value.int IntKind.i64 b0, Value.int IntKind.i64 b1, Value.slice b2_a b2_l b2_c])) fun (m1 : Mem) =>
 isC m1 n = true ∧
 ∃ (p2 : Option Addr),
 ∃ (k3 : Nat),
 ∃ (k4 : Nat),
 rd m1 n 2 = some (Value.slice p2 k3 k4) ∧
 bif decide ((↑k3 : Int) > 200) then Wc Try.prog fLaw13awake [] m1 (n + 1 + 1) fun (v5 : Value) (m6 : Mem) (k7 : Nat) => ∃ (b8 : Bool), v5 = Value.bool b8 ∧ Later (Q (Value.bool b8) m6 k7)
 else
 isC m1 (n + 1) = true ∧
 ∃ (p9 : Option Addr),
 ∃ (k10 : Nat),
 ∃ (k11 : Nat),
 rd m1 (n + 1) 2 = some (Value.slice p9 k10 k11) ∧
 bif decide ((↑k10 : Int) > 200) then Wc Try.prog fLaw13awake [] m1 (n + 1 + 1) fun (v12 : Value) (m13 : Mem) (k14 : Nat) => ∃ (b15 : Bool), v12 = Value.bool b15 ∧ Later (Q (Value.bool b15) m13 k14)
 else
 ∃ (x16 : Int),
 ∃ (x17 : Int),
 ∃ (p18 : Option Addr),
 ∃ (k19 : Nat),
 ∃ (k20 : Nat),
 rds m1 n 0 3 = some [Value.int IntKind.i64 x16, Value.int IntKind.i64 x17, Value.slice p18 k19 k20] ∧
 ∃ (x21 : Int),
 ∃ (x22 : Int),
 ∃ (p23 : Option Addr),
 ∃ (k24 : Nat),
 ∃ (k25 : Nat),
 rds m1 (n + 1) 0 3 = some [Value.int IntKind.i64 x21, Value.int IntKind.i64 x22, Value.slice p23 k24 k25] ∧
 memLet ((Tr.set m1 (n + 1 + 1 + 2) (AObj.cells none tApiRecord 3 [Value.int IntKind.i64 0, Value.int IntKind.i64 0, Value.slice none 0 0])).set (n + 1 + 1 + 3) (AObj.cells none tApiRecord 3 [Value.int IntKind.i64 0, Value.int IntKind.i64 0, Value.slice none 0 0])) fun (m26 : Mem) =>
 ∃ (m27 : Mem),
 storeCs m26 (n + 1 + 1 + 2) 0 [Value.int IntKind.i64 x16, Value.int IntKind.i64 x17, Value.slice p18 k19 k20] = some m27 ∧
 ∃ (m28 : Mem),
 storeCs m27 (n + 1 + 1 + 3) 0 [Value.int IntKind.i64 x21, Value.int IntKind.i64 x22, Value.slice p23 k24 k25] = some m28 ∧
 (∃ (x29 : Int), ∃ (x30 : Int), ∃ (p31 : Option Addr), ∃ (k32 : Nat), ∃ (k33 : Nat), rds m27 (n + 1) 0 3 = some [Value.int IntKind.i64 x29, Value.int IntKind.i64 x30, Value.slice p31 k32 k33] ∧ Value.agg { toList := [Value.int IntKind.i64 x29, Value.int IntKind.i64 x30, Value.slice p31 k32 k33] } = Value.agg { toList := [Value.int IntKind.i64 x21, Value.int IntKind.i64 x22, Value.slice p23 k24 k25] }) ∧
 n + 1 + 1 + 6 ≤ n + 1 + 1 + 6 ∧
 n + 1 + 1 + 6 ≤ n + 1 + 1 + 6 ∧
 isC m28 n = true ∧
 ∃ (p34 : Option Addr),
 ∃ (k35 : Nat),
 ∃ (k36 : Nat),
 rd m28 n 2 = some (Value.slice p34 k35 k36) ∧
 ∃ (p37 : Option Addr),
 ∃ (k38 : Nat),
 ∃ (k39 : Nat),
 ∃ (m40 : Mem),
 ∃ (k41 : Nat),
 (Wc Try.prog fKitOwnint [Value.slice p34 k35 k36] m28 (n + 1 + 1 + 6 + 10) fun (v42 : Value) (m43 : Mem) (k44 : Nat) => v42 = Value.slice p37 k38 k39 ∧ m43 = m40 ∧ k44 = k41) ∧
 Later
 (isC m40 (n + 1) = true ∧
 ∃ (p45 : Option Addr),
 ∃ (k46 : Nat),
 ∃ (k47 : Nat),
 rd m40 (n + 1) 2 = some (Value.slice p45 k46 k47) ∧
 ∃ (p48 : Option Addr),
 ∃ (k49 : Nat),
 ∃ (k50 : Nat),
 ∃ (m51 : Mem),
 ∃ (k52 : Nat),
 (Wc Try.prog fKitOwnint [Value.slice p45 k46 k47] m40 k41 fun (v53 : Value) (m54 : Mem) (k55 : Nat) => v53 = Value.slice p48 k49 k50 ∧ m54 = m51 ∧ k55 = k52) ∧
 Later
 (isC m51 (n + 1 + 1 + 2) = true ∧
 ∃ (m56 : Mem),
 storeCs m51 (n + 1 + 1 + 2) 2 [Value.slice p37 k38 k39] = some m56 ∧
 isC m56 (n + 1 + 1 + 3) = true ∧
 ∃ (m57 : Mem),
 storeCs m56 (n + 1 + 1 + 3) 2 [Value.slice p48 k49 k50] = some m57 ∧
 (isC m40 (n + 1 + 1 + 2) = true ∧ Value.pointer (some { block := n + 1 + 1 + 2, off := 2 }) = Value.pointer (some { block := n + 1 + 1 + 2, off := 2 })) ∧
 (∃ (p58 : Option Addr), ∃ (k59 : Nat), ∃ (k60 : Nat), rd m28 (n + 1) 2 = some (Value.slice p58 k59 k60) ∧ Value.slice p58 k59 k60 = Value.slice p45 k46 k47) ∧
 (isC m28 (n + 1) = true ∧ Value.pointer (some { block := n + 1, off := 2 }) = Value.pointer (some { block := n + 1, off := 2 })) ∧
 n + 1 + 1 + 6 + 10 ≤ k41 ∧
 n + 1 + 1 + 6 + 10 ≤ k52 ∧
 n + 1 + 1 + 6 + 10 ≤ k52 ∧
 n + 1 + 1 + 6 + 10 ≤ k52 ∧
 ∃ (x61 : Int),
 ∃ (x62 : Int),
 ∃ (p63 : Option Addr),
 ∃ (k64 : Nat),
 ∃ (k65 : Nat),
 rds m57 (n + 1 + 1 + 2) 0 3 = some [Value.int IntKind.i64 x61, Value.int IntKind.i64 x62, Value.slice p63 k64 k65] ∧
 ∃ (x66 : Int),
 ∃ (m67 : Mem),
 ∃ (k68 : Nat),
 (Wc Try.prog fLsdbCheck [Value.int IntKind.i64 nodes, Value.agg { toList := [Value.int IntKind.i64 x61, Value.int IntKind.i64 x62, Value.slice p63 k64 k65] }] m57 (k52 + 30) fun (v69 : Value) (m70 : Mem) (k71 : Nat) => v69 = Value.int IntKind.i64 x66 ∧ m70 = m67 ∧ k71 = k68) ∧
 Later
 (∃ (x72 : Int),
 ∃ (x73 : Int),
 ∃ (p74 : Option Addr),
 ∃ (k75 : Nat),
 ∃ (k76 : Nat),
 rds m67 n 0 3 = some [Value.int IntKind.i64 x72, Value.int IntKind.i64 x73, Value.slice p74 k75 k76] ∧
 ∃ (x77 : Int),
 ∃ (m78 : Mem),
 ∃ (k79 : Nat),
 (Wc Try.prog fRef13Check [Value.int IntKind.i64 nodes, Value.agg { toList := [Value.int IntKind.i64 x72, Value.int IntKind.i64 x73, Value.slice p74 k75 k76] }] m67 k68 fun (v80 : Value) (m81 : Mem) (k82 : Nat) => v80 = Value.int IntKind.i64 x77 ∧ m81 = m78 ∧ k82 = k79) ∧
 Later
 (bif x66 == x77 then
 ∃ (x83 : Int),
 ∃ (x84 : Int),
 ∃ (p85 : Option Addr),
 ∃ (k86 : Nat),
 ∃ (k87 : Nat),
 rds m78 (n + 1 + 1 + 2) 0 3 = some [Value.int IntKind.i64 x83, Value.int IntKind.i64 x84, Value.slice p85 k86 k87] ∧
 ∃ (x88 : Int),
 ∃ (x89 : Int),
 ∃ (p90 : Option Addr),
 ∃ (k91 : Nat),
 ∃ (k92 : Nat),
 rds m78 (n + 1 + 1 + 3) 0 3 = some [Value.int IntKind.i64 x88, Value.int IntKind.i64 x89, Value.slice p90 k91 k92] ∧
 ∃ (x93 : Int),
 ∃ (m94 : Mem),
 ∃ (k95 : Nat),
 (Wc Try.prog fLsdbCompare [Value.agg { toList := [Value.int IntKind.i64 x83, Value.int IntKind.i64 x84, Value.slice p85 k86 k87] }, Value.agg { toList := [Value.int IntKind.i64 x88, Value.int IntKind.i64 x89, Value.slice p90 k91 k92] }] m78 k79 fun (v96 : Value) (m97 : Mem) (k98 : Nat) => v96 = Value.int IntKind.i64 x93 ∧ m97 = m94 ∧ k98 = k95) ∧
 Later
 (∃ (x99 : Int),
 ∃ (x100 : Int),
 ∃ (p101 : Option Addr),
 ∃ (k102 : Nat),
 ∃ (k103 : Nat),
 rds m94 n 0 3 = some [Value.int IntKind.i64 x99, Value.int IntKind.i64 x100, Value.slice p101 k102 k103] ∧
 ∃ (x104 : Int),
 ∃ (x105 : Int),
 ∃ (p106 : Option Addr),
 ∃ (k107 : Nat),
 ∃ (k108 : Nat),
 rds m94 (n + 1) 0 3 = some [Value.int IntKind.i64 x104, Value.int IntKind.i64 x105, Value.slice p106 k107 k108] ∧
 ∃ (x109 : Int),
 ∃ (m110 : Mem),
 ∃ (k111 : Nat),
 (Wc Try.prog fRef13Compare [Value.agg { toList := [Value.int IntKind.i64 x99, Value.int IntKind.i64 x100, Value.slice p101 k102 k103] }, Value.agg { toList := [Value.int IntKind.i64 x104, Value.int IntKind.i64 x105, Value.slice p106 k107 k108] }] m94 k95 fun (v112 : Value) (m113 : Mem) (k114 : Nat) => v112 = Value.int IntKind.i64 x109 ∧ m113 = m110 ∧ k114 = k111) ∧
 Later
 (bif x93 == x109 then
 ∃ (x115 : Int),
 ∃ (x116 : Int),
 ∃ (p117 : Option Addr),
 ∃ (k118 : Nat),
 ∃ (k119 : Nat),
 rds m110 (n + 1 + 1 + 2) 0 3 = some [Value.int IntKind.i64 x115, Value.int IntKind.i64 x116, Value.slice p117 k118 k119] ∧
 ∃ (x120 : Int),
 ∃ (x121 : Int),
 ∃ (p122 : Option Addr),
 ∃ (k123 : Nat),
 ∃ (k124 : Nat),
 rds m110 n 0 3 = some [Value.int IntKind.i64 x120, Value.int IntKind.i64 x121, Value.slice p122 k123 k124] ∧
 ∃ (b125 : Bool),
 ∃ (m126 : Mem),
 ∃ (k127 : Nat),
 (Wc Try.prog fLaw13equal [Value.agg { toList := [Value.int IntKind.i64 x115, Value.int IntKind.i64 x116, Value.slice p117 k118 k119] }, Value.agg { toList := [Value.int IntKind.i64 x120, Value.int IntKind.i64 x121, Value.slice p122 k123 k124] }] m110 k111 fun (v128 : Value) (m129 : Mem) (k130 : Nat) => v128 = Value.bool b125 ∧ m129 = m126 ∧ k130 = k127) ∧
 Later
 (bif b125 then
 ∃ (x131 : Int),
 ∃ (x132 : Int),
 ∃ (p133 : Option Addr),
 ∃ (k134 : Nat),
 ∃ (k135 : Nat),
 rds m126 (n + 1 + 1 + 3) 0 3 = some [Value.int IntKind.i64 x131, Value.int IntKind.i64 x132, Value.slice p133 k134 k135] ∧
 ∃ (x136 : Int),
 ∃ (x137 : Int),
 ∃ (p138 : Option Addr),
 ∃ (k139 : Nat),
 ∃ (k140 : Nat),
 rds m126 (n + 1) 0 3 = some [Value.int IntKind.i64 x136, Value.int IntKind.i64 x137, Value.slice p138 k139 k140] ∧
 ∃ (b141 : Bool),
 ∃ (m142 : Mem),
 ∃ (k143 : Nat),
 (Wc Try.prog fLaw13equal [Value.agg { toList := [Value.int IntKind.i64 x131, Value.int IntKind.i64 x132, Value.slice p133 k134 k135] }, Value.agg { toList := [Value.int IntKind.i64 x136, Value.int IntKind.i64 x137, Value.slice p138 k139 k140] }] m126 k127 fun (v144 : Value) (m145 : Mem) (k146 : Nat) => v144 = Value.bool b141 ∧ m145 = m142 ∧ k146 = k143) ∧
 Later
 (bif b141 then
 ∃ (b147 : Bool),
 ∃ (m148 : Mem),
 ∃ (k149 : Nat),
 (Wc Try.prog fLaw13awake [] m142 k143 fun (v150 : Value) (m151 : Mem) (k152 : Nat) => v150 = Value.bool b147 ∧ m151 = m148 ∧ k152 = k149) ∧
 Later
 ((∃ (x153 : Int), ∃ (x154 : Int), ∃ (p155 : Option Addr), ∃ (k156 : Nat), ∃ (k157 : Nat), rds m78 (n + 1) 0 3 = some [Value.int IntKind.i64 x153, Value.int IntKind.i64 x154, Value.slice p155 k156 k157] ∧ Value.agg { toList := [Value.int IntKind.i64 x153, Value.int IntKind.i64 x154, Value.slice p155 k156 k157] } = Value.agg { toList := [Value.int IntKind.i64 x104, Value.int IntKind.i64 x105, Value.slice p106 k107 k108] }) ∧
 (∃ (x158 : Int), ∃ (x159 : Int), ∃ (p160 : Option Addr), ∃ (k161 : Nat), ∃ (k162 : Nat), rds m78 n 0 3 = some [Value.int IntKind.i64 x158, Value.int IntKind.i64 x159, Value.slice p160 k161 k162] ∧ Value.agg { toList := [Value.int IntKind.i64 x158, Value.int IntKind.i64 x159, Value.slice p160 k161 k162] } = Value.agg { toList := [Value.int IntKind.i64 x99, Value.int IntKind.i64 x100, Value.slice p101 k102 k103] }) ∧
 (∃ (x163 : Int), ∃ (x164 : Int), ∃ (p165 : Option Addr), ∃ (k166 : Nat), ∃ (k167 : Nat), rds m57 n 0 3 = some [Value.int IntKind.i64 x163, Value.int IntKind.i64 x164, Value.slice p165 k166 k167] ∧ Value.agg { toList := [Value.int IntKind.i64 x163, Value.int IntKind.i64 x164, Value.slice p165 k166 k167] } = Value.agg { toList := [Value.int IntKind.i64 x72, Value.int IntKind.i64 x73, Value.slice p74 k75 k76] }) ∧
 k52 + 30 ≤ k68 ∧ k52 + 30 ≤ k79 ∧ k52 + 30 ≤ k95 ∧ k52 + 30 ≤ k111 ∧ k52 + 30 ≤ k127 ∧ k52 + 30 ≤ k143 ∧ k52 + 30 ≤ k149 ∧ Q (Value.bool b147) m148 k149)
 else False)
 else False)
 else False))
 else False))))) := by kernel_rfl

/- 10 leafmesh/leafmeshkit.Own[int] -/
theorem xKitOwnint (m : Mem) (n : Nat) (Q : Value → Mem → Nat → Prop) (l_a : Option Addr) (l_l : Nat) (l_c : Nat) :
 Xc Try.prog xcfg 400 fKitOwnint [Value.slice l_a l_l l_c] m n Q =
 (memLet (Tr.set m n (AObj.cells none tInt 1 [])) fun (m0 : Mem) => ∃ (p1 : Option Addr), ∃ (k2 : Nat), ∃ (k3 : Nat), ∃ (m4 : Mem), ∃ (k5 : Nat), appendA Try.prog m0 (n + 1) tLint tLint (Value.slice (some { block := n, off := 0 }) 0 0) (Value.slice l_a l_l l_c) = Eff.val (Value.slice p1 k2 k3) m4 k5 ∧ Q (Value.slice p1 k2 k3) m4 k5) := by kernel_rfl

/- 11 leafmesh/lsdb.Check -/
theorem xLsdbCheck (m : Mem) (n : Nat) (Q : Value → Mem → Nat → Prop) (nodes : Int) (r0 : Int) (r1 : Int) (r2_a : Option Addr) (r2_l : Nat) (r2_c : Nat) :
 Xc Try.prog xcfg 400 fLsdbCheck [Value.int IntKind.i64 nodes, Value.agg { toList := [Value.int IntKind.i64 r0, Value.int IntKind.i64 r1, Value.slice r2_a r2_l r2_c] }] m n Q =
 (memLet (Tr.set m n (AObj.cells none tApiRecord 3 [Value.int IntKind.i64 r0, Value.int IntKind.i64 r1, Value.slice r2_a r2_l r2_c])) fun (m0 : Mem) =>
 isC m0 n = true ∧
 ∃ (x1 : Int), rd m0 n 0 = some (Value.int IntKind.i64 x1) ∧ bif decide (x1 < 0) then Q (Value.int IntKind.i64 2) m0 (n + 1) else isC m0 n = true ∧ ∃ (x2 : Int), rd m0 n 0 = some (Value.int IntKind.i64 x2) ∧ bif decide (x2 ≥ nodes) then Q (Value.int IntKind.i64 2) m0 (n + 1) else isC m0 n = true ∧ ∃ (x3 : Int), rd m0 n 1 = some (Value.int IntKind.i64 x3) ∧ bif decide (x3 < 1) then Q (Value.int IntKind.i64 2) m0 (n + 1) else isC m0 n = true ∧ ∃ (x4 : Int), rd m0 n 1 = some (Value.int IntKind.i64 x4) ∧ bif decide (x4 > 1073741824) then Q (Value.int IntKind.i64 2) m0 (n + 1) else isC m0 n = true ∧ ∃ (p5 : Option Addr), ∃ (k6 : Nat), ∃ (k7 : Nat), rd m0 n 2 = some (Value.slice p5 k6 k7) ∧ Wc Try.prog fLsdbordered [Value.slice p5 k6 k7] m0 (n + 1) fun (v8 : Value) (m9 : Mem) (k10 : Nat) => ∃ (x11 : Int), v8 = Value.int IntKind.i64 x11 ∧ Later (Q (Value.int IntKind.i64 x11) m9 k10)) := by kernel_rfl

/- 12 leafmesh/leafmeshref13.Check -/
theorem xRef13Check (m : Mem) (n : Nat) (Q : Value → Mem → Nat → Prop) (nodes : Int) (r0 : Int) (r1 : Int) (r2_a : Option Addr) (r2_l : Nat) (r2_c : Nat) :
 Xc Try.prog xcfg 400 fRef13Check [Value.int IntKind.i64 nodes, Value.agg { toList := [Value.int IntKind.i64 r0, Value.int IntKind.i64 r1, Value.slice r2_a r2_l r2_c] }] m n Q =
 (memLet (Tr.set m n (AObj.cells none tApiRecord 3 [Value.int IntKind.i64 r0, Value.int IntKind.i64 r1, Value.slice r2_a r2_l r2_c])) fun (m0 : Mem) =>
 isC m0 n = true ∧
 ∃ (x1 : Int), rd m0 n 0 = some (Value.int IntKind.i64 x1) ∧ bif decide (x1 < 0) then Q (Value.int IntKind.i64 2) m0 (n + 1) else isC m0 n = true ∧ ∃ (x2 : Int), rd m0 n 0 = some (Value.int IntKind.i64 x2) ∧ bif decide (x2 ≥ nodes) then Q (Value.int IntKind.i64 2) m0 (n + 1) else isC m0 n = true ∧ ∃ (x3 : Int), rd m0 n 1 = some (Value.int IntKind.i64 x3) ∧ bif decide (x3 < 1) then Q (Value.int IntKind.i64 2) m0 (n + 1) else isC m0 n = true ∧ ∃ (x4 : Int), rd m0 n 1 = some (Value.int IntKind.i64 x4) ∧ bif decide (x4 > 1073741824) then Q (Value.int IntKind.i64 2) m0 (n + 1) else isC m0 n = true ∧ ∃ (p5 : Option Addr), ∃ (k6 : Nat), ∃ (k7 : Nat), rd m0 n 2 = some (Value.slice p5 k6 k7) ∧ Wc Try.prog fRef13links [Value.slice p5 k6 k7] m0 (n + 1) fun (v8 : Value) (m9 : Mem) (k10 : Nat) => ∃ (x11 : Int), v8 = Value.int IntKind.i64 x11 ∧ Later (Q (Value.int IntKind.i64 x11) m9 k10)) := by kernel_rfl

/- 13 leafmesh/lsdb.Compare -/
theorem xLsdbCompare (m : Mem) (n : Nat) (Q : Value → Mem → Nat → Prop) (a0 : Int) (a1 : Int) (a2_a : Option Addr) (a2_l : Nat) (a2_c : Nat) (b0 : Int) (b1 : Int) (b2_a : Option Addr) (b2_l : Nat) (b2_c : Nat) :
 Xc Try.prog xcfg 400 fLsdbCompare [Value.agg { toList := [Value.int IntKind.i64 a0, Value.int IntKind.i64 a1, Value.slice a2_a a2_l a2_c] }, Value.agg { toList := [Value.int IntKind.i64 b0, Value.int IntKind.i64 b1, Value.slice b2_a b2_l b2_c] }] m n Q =
 (memLet (Tr.set m n (AObj.cells none tApiRecord 3 [Value.int IntKind.i64 a0, Value.int IntKind.i64 a1, Value.slice a2_a a2_l a2_c])) fun (m0 : Mem) =>
 memLet (Tr.set m0 (n + 1) (AObj.cells none tApiRecord 3 [Value.int IntKind.i64 b0, Value.int IntKind.i64 b1, Value.slice b2_a b2_l b2_c])) fun (m1 : Mem) =>
 isC m1 n = true ∧
 ∃ (x2 : Int),
 rd m1 n 1 = some (Value.int IntKind.i64 x2) ∧
 isC m1 (n + 1) = true ∧
 ∃ (x3 : Int),
 rd m1 (n + 1) 1 = some (Value.int IntKind.i64 x3) ∧
 ∃ (x4 : Int),
 ∃ (m5 : Mem),
 ∃ (k6 : Nat),
 (Wc Try.prog fCmpCompareint [Value.int IntKind.i64 x2, Value.int IntKind.i64 x3] m1 (n + 1 + 1 + 13) fun (v7 : Value) (m8 : Mem) (k9 : Nat) => v7 = Value.int IntKind.i64 x4 ∧ m8 = m5 ∧ k9 = k6) ∧
 Later
 (isC m5 n = true ∧
 ∃ (p10 : Option Addr),
 ∃ (k11 : Nat),
 ∃ (k12 : Nat),
 rd m5 n 2 = some (Value.slice p10 k11 k12) ∧
 isC m5 (n + 1) = true ∧
 ∃ (p13 : Option Addr),
 ∃ (k14 : Nat),
 ∃ (k15 : Nat),
 rd m5 (n + 1) 2 = some (Value.slice p13 k14 k15) ∧
 ∃ (x16 : Int),
 ∃ (m17 : Mem),
 ∃ (k18 : Nat),
 (Wc Try.prog fSlicesCompareLintint [Value.slice p10 k11 k12, Value.slice p13 k14 k15] m5 k6 fun (v19 : Value) (m20 : Mem) (k21 : Nat) => v19 = Value.int IntKind.i64 x16 ∧ m20 = m17 ∧ k21 = k18) ∧
 Later
 (memLet (Tr.set m17 (n + 1 + 1 + 10) (AObj.cells none tInt 1 [Value.int IntKind.i64 x4, Value.int IntKind.i64 x16])) fun (m22 : Mem) =>
 ∃ (x23 : Int),
 ∃ (m24 : Mem),
 ∃ (k25 : Nat),
 (Wc Try.prog fCmpOrint [Value.slice (some { block := n + 1 + 1 + 10, off := 0 }) 2 2] m22 k18 fun (v26 : Value) (m27 : Mem) (k28 : Nat) => v26 = Value.int IntKind.i64 x23 ∧ m27 = m24 ∧ k28 = k25) ∧
 Later ((∃ (p29 : Option Addr), ∃ (k30 : Nat), ∃ (k31 : Nat), rd m1 (n + 1) 2 = some (Value.slice p29 k30 k31) ∧ Value.slice p29 k30 k31 = Value.slice p13 k14 k15) ∧ (isC m1 (n + 1) = true ∧ Value.pointer (some { block := n + 1, off := 2 }) = Value.pointer (some { block := n + 1, off := 2 })) ∧ (∃ (p32 : Option Addr), ∃ (k33 : Nat), ∃ (k34 : Nat), rd m1 n 2 = some (Value.slice p32 k33 k34) ∧ Value.slice p32 k33 k34 = Value.slice p10 k11 k12) ∧ (isC m1 n = true ∧ Value.pointer (some { block := n, off := 2 }) = Value.pointer (some { block := n, off := 2 })) ∧ n + 1 + 1 + 13 ≤ k6 ∧ n + 1 + 1 + 13 ≤ k18 ∧ n + 1 + 1 + 13 ≤ k25 ∧ Tr.get m5 (n + 1 + 1 + 10) = none ∧ Tr.get m17 (n + 1 + 1 + 10) = none ∧ Q (Value.int IntKind.i64 x23) m24 k25)))) := by kernel_rfl

/- 14 leafmesh/leafmeshref13.Compare -/
theorem xRef13Compare (m : Mem) (n : Nat) (Q : Value → Mem → Nat → Prop) (a0 : Int) (a1 : Int) (a2_a : Option Addr) (a2_l : Nat) (a2_c : Nat) (b0 : Int) (b1 : Int) (b2_a : Option Addr) (b2_l : Nat) (b2_c : Nat) :
 Xc Try.prog xcfg 400 fRef13Compare [Value.agg { toList := [Value.int IntKind.i64 a0, Value.int IntKind.i64 a1, Value.slice a2_a a2_l a2_c] }, Value.agg { toList := [Value.int IntKind.i64 b0, Value.int IntKind.i64 b1, Value.slice b2_a b2_l b2_c] }] m n Q =
 (memLet (Tr.set m n (AObj.cells none tApiRecord 3 [Value.int IntKind.i64 a0, Value.int IntKind.i64 a1, Value.slice a2_a a2_l a2_c])) fun (m0 : Mem) =>
 memLet (Tr.set m0 (n + 1) (AObj.cells none tApiRecord 3 [Value.int IntKind.i64 b0, Value.int IntKind.i64 b1, Value.slice b2_a b2_l b2_c])) fun (m1 : Mem) =>
 isC m1 n = true ∧
 ∃ (x2 : Int),
 rd m1 n 1 = some (Value.int IntKind.i64 x2) ∧
 isC m1 (n + 1) = true ∧ ∃ (x3 : Int), rd m1 (n + 1) 1 = some (Value.int IntKind.i64 x3) ∧ bif decide (x2 < x3) then Q (Value.int IntKind.i64 (-1)) m1 (n + 1 + 1) else isC m1 n = true ∧ ∃ (x4 : Int), rd m1 n 1 = some (Value.int IntKind.i64 x4) ∧ isC m1 (n + 1) = true ∧ ∃ (x5 : Int), rd m1 (n + 1) 1 = some (Value.int IntKind.i64 x5) ∧ bif decide (x4 > x5) then Q (Value.int IntKind.i64 1) m1 (n + 1 + 1) else isC m1 n = true ∧ ∃ (p6 : Option Addr), ∃ (k7 : Nat), ∃ (k8 : Nat), rd m1 n 2 = some (Value.slice p6 k7 k8) ∧ isC m1 (n + 1) = true ∧ ∃ (p9 : Option Addr), ∃ (k10 : Nat), ∃ (k11 : Nat), rd m1 (n + 1) 2 = some (Value.slice p9 k10 k11) ∧ Wc Try.prog fRef13compare [Value.slice p6 k7 k8, Value.slice p9 k10 k11] m1 (n + 1 + 1) fun (v12 : Value) (m13 : Mem) (k14 : Nat) => ∃ (x15 : Int), v12 = Value.int IntKind.i64 x15 ∧ Later (Q (Value.int IntKind.i64 x15) m13 k14)) := by kernel_rfl

/- 15 leafmesh/leafmeshlaw13.equal -/
theorem xLaw13equal (m : Mem) (n : Nat) (Q : Value → Mem → Nat → Prop) (a0 : Int) (a1 : Int) (a2_a : Option Addr) (a2_l : Nat) (a2_c : Nat) (b0 : Int) (b1 : Int) (b2_a : Option Addr) (b2_l : Nat) (b2_c : Nat) :
 Xc Try.prog xcfg 400 fLaw13equal [Value.agg { toList := [Value.int IntKind.i64 a0, Value.int IntKind.i64 a1, Value.slice a2_a a2_l a2_c] }, Value.agg { toList := [Value.int IntKind.i64 b0, Value.int IntKind.i64 b1, Value.slice b2_a b2_l b2_c] }] m n Q =
 (memLet (Tr.set m n (AObj.cells none tApiRecord 3 [Value.int IntKind.i64 a0, Value.int IntKind.i64 a1, Value.slice a2_a a2_l a2_c])) fun (m0 : Mem) =>
 memLet (Tr.set m0 (n + 1) (AObj.cells none tApiRecord 3 [Value.int IntKind.i64 b0, Value.int IntKind.i64 b1, Value.slice b2_a b2_l b2_c])) fun (m1 : Mem) =>
 isC m1 n = true ∧ ∃ (x2 : Int), rd m1 n 0 = some (Value.int IntKind.i64 x2) ∧ isC m1 (n + 1) = true ∧ ∃ (x3 : Int), rd m1 (n + 1) 0 = some (Value.int IntKind.i64 x3) ∧ bif x2 == x3 then isC m1 n = true ∧ ∃ (x4 : Int), rd m1 n 1 = some (Value.int IntKind.i64 x4) ∧ isC m1 (n + 1) = true ∧ ∃ (x5 : Int), rd m1 (n + 1) 1 = some (Value.int IntKind.i64 x5) ∧ bif x4 == x5 then isC m1 n = true ∧ ∃ (p6 : Option Addr), ∃ (k7 : Nat), ∃ (k8 : Nat), rd m1 n 2 = some (Value.slice p6 k7 k8) ∧ isC m1 (n + 1) = true ∧ ∃ (p9 : Option Addr), ∃ (k10 : Nat), ∃ (k11 : Nat), rd m1 (n + 1) 2 = some (Value.slice p9 k10 k11) ∧ Wc Try.prog fKitSameint [Value.slice p6 k7 k8, Value.slice p9 k10 k11] m1 (n + 1 + 1) fun (v12 : Value) (m13 : Mem) (k14 : Nat) => ∃ (b15 : Bool), v12 = Value.bool b15 ∧ Later (Q (Value.bool b15) m13 k14) else Q (Value.bool false) m1 (n + 1 + 1) else Q (Value.bool false) m1 (n + 1 + 1)) := by kernel_rfl

/- 28 leafmesh/leafmeshkit.Pick -/
theorem xKitPick (m : Mem) (n : Nat) (Q : Value → Mem → Nat → Prop) (x : Int) (n' : Int) :
 Xc Try.prog xcfg 400 fKitPick [Value.int IntKind.i64 x, Value.int IntKind.i64 n'] m n Q =
 (n' ≠ 0 ∧ bif decide (x.tmod n' < 0) then Q (Value.int IntKind.i64 (IntKind.i64.wrap (x.tmod n' + n'))) m n else Q (Value.int IntKind.i64 (x.tmod n')) m n) := by kernel_rfl

/- 34 leafmesh/leafmeshkit.Same[int] -/
theorem xKitSameint (m : Mem) (n : Nat) (Q : Value → Mem → Nat → Prop) (a_a : Option Addr) (a_l : Nat) (a_c : Nat) (b_a : Option Addr) (b_l : Nat) (b_c : Nat) :
 Xc Try.prog xcfg 400 fKitSameint [Value.slice a_a a_l a_c, Value.slice b_a b_l b_c] m n Q =
 (bif (↑a_l : Int) != (↑b_l : Int) then Q (Value.bool false) m n else W Try.prog { fn := fKitSameint, nt := 26, slots := [(0, Value.slice a_a a_l a_c), (1, Value.slice b_a b_l b_c), (5, Value.int IntKind.i64 0)], todo := pt Try.prog fKitSameint [1, 1, 0, 1, 0, 0] } m n Q) := by kernel_rfl

theorem xKitSameintk0 (m : Mem) (n : Nat) (Q : Value → Mem → Nat → Prop) (a_a : Option Addr) (a_l : Nat) (a_c : Nat) (b_a : Option Addr) (b_l : Nat) (b_c : Nat) (i : Int) :
 xF (evX Try.prog xcfg 400) { fn := fKitSameint, nt := 26, slots := [(0, Value.slice a_a a_l a_c), (1, Value.slice b_a b_l b_c), (5, Value.int IntKind.i64 i)], todo := pt Try.prog fKitSameint [1, 1, 0, 1, 0, 0] } m n Q =
 (bif decide (i < (↑a_l : Int)) then elimA a_a False fun (k0 k1 : Nat) (p2 : Option Nat) => (0 ≤ i ∧ i < (↑a_l : Int) ∧ liveAt m k0 = true ∧ (p2 ≠ none → 0 < a_c)) ∧ ∃ (x3 : Int), rd m k0 (offOf k1 p2 + i.toNat * 1) = some (Value.int IntKind.i64 x3) ∧ elimA b_a False fun (k4 k5 : Nat) (p6 : Option Nat) => (0 ≤ i ∧ i < (↑b_l : Int) ∧ liveAt m k4 = true ∧ (p6 ≠ none → 0 < b_c)) ∧ ∃ (x7 : Int), rd m k4 (offOf k5 p6 + i.toNat * 1) = some (Value.int IntKind.i64 x7) ∧ bif x3 != x7 then Q (Value.bool false) m (n + 9) else W Try.prog { fn := fKitSameint, nt := 26, slots := [(0, Value.slice a_a a_l a_c), (1, Value.slice b_a b_l b_c), (5, Value.int IntKind.i64 (IntKind.i64.wrap (i + 1)))], todo := pt Try.prog fKitSameint [1, 1, 0, 1, 0, 0] } m (n + 9) Q else Q (Value.bool true) m n) := by kernel_rfl

/- 43 leafmesh/lsdb.ordered -/
theorem xLsdbordered (m : Mem) (n : Nat) (Q : Value → Mem → Nat → Prop) (links_a : Option Addr) (links_l : Nat) (links_c : Nat) :
 Xc Try.prog xcfg 400 fLsdbordered [Value.slice links_a links_l links_c] m n Q =
 (W Try.prog { fn := fLsdbordered, nt := 32, slots := [(0, Value.slice links_a links_l links_c), (5, Value.slice links_a links_l links_c), (6, Value.int IntKind.i64 (↑links_l : Int)), (7, Value.int IntKind.i64 0)], todo := pt Try.prog fLsdbordered [1, 0, 1, 0, 0] } m n Q) := by kernel_rfl

theorem xLsdborderedk0 (m : Mem) (n : Nat) (Q : Value → Mem → Nat → Prop) (links_a : Option Addr) (links_l : Nat) (links_c : Nat) (t6 : Int) (t7 : Int) :
 xF (evX Try.prog xcfg 400) { fn := fLsdbordered, nt := 32, slots := [(0, Value.slice links_a links_l links_c), (5, Value.slice links_a links_l links_c), (6, Value.int IntKind.i64 t6), (7, Value.int IntKind.i64 t7)], todo := pt Try.prog fLsdbordered [1, 0, 1, 0, 0] } m n Q =
 (bif decide (t7 < t6) then
 elimA links_a False fun (k0 k1 : Nat) (p2 : Option Nat) =>
 (0 ≤ t7 ∧ t7 < (↑links_l : Int) ∧ liveAt m k0 = true ∧ (p2 ≠ none → 0 < links_c)) ∧
 ∃ (x3 : Int),
 rd m k0 (offOf k1 p2 + t7.toNat * 1) = some (Value.int IntKind.i64 x3) ∧
 bif decide (x3 < 0) then Q (Value.int IntKind.i64 2) m n
 else
 bif decide (x3 ≥ 128) then Q (Value.int IntKind.i64 2) m n
 else
 bif decide (t7 > 0) then elimA links_a False fun (k4 k5 : Nat) (p6 : Option Nat) => (0 ≤ IntKind.i64.wrap (t7 - 1) ∧ IntKind.i64.wrap (t7 - 1) < (↑links_l : Int) ∧ liveAt m k4 = true ∧ (p6 ≠ none → 0 < links_c)) ∧ ∃ (x7 : Int), rd m k4 (offOf k5 p6 + (IntKind.i64.wrap (t7 - 1)).toNat * 1) = some (Value.int IntKind.i64 x7) ∧ bif decide (x3 ≤ x7) then Q (Value.int IntKind.i64 10) m n else W Try.prog { fn := fLsdbordered, nt := 32, slots := [(0, Value.slice links_a links_l links_c), (5, Value.slice links_a links_l links_c), (6, Value.int IntKind.i64 t6), (7, Value.int IntKind.i64 (IntKind.i64.wrap (t7 + 1)))], todo := pt Try.prog fLsdbordered [1, 0, 1, 0, 0] } m n Q
 else W Try.prog { fn := fLsdbordered, nt := 32, slots := [(0, Value.slice links_a links_l links_c), (5, Value.slice links_a links_l links_c), (6, Value.int IntKind.i64 t6), (7, Value.int IntKind.i64 (IntKind.i64.wrap (t7 + 1)))], todo := pt Try.prog fLsdbordered [1, 0, 1, 0, 0] } m n Q
 else Q (Value.int IntKind.i64 0) m n) := by kernel_rfl

/- 44 leafmesh/leafmeshref13.links -/
theorem xRef13links (m : Mem) (n : Nat) (Q : Value → Mem → Nat → Prop) (l_a : Option Addr) (l_l : Nat) (l_c : Nat) :
 Xc Try.prog xcfg 400 fRef13links [Value.slice l_a l_l l_c] m n Q =
 (W Try.prog { fn := fRef13links, nt := 36, slots := [(0, Value.slice l_a l_l l_c), (3, Value.int IntKind.i64 0)], todo := pt Try.prog fRef13links [1, 0, 1, 0, 0] } m n Q) := by kernel_rfl

theorem xRef13linksk0 (m : Mem) (n : Nat) (Q : Value → Mem → Nat → Prop) (l_a : Option Addr) (l_l : Nat) (l_c : Nat) (i : Int) :
 xF (evX Try.prog xcfg 400) { fn := fRef13links, nt := 36, slots := [(0, Value.slice l_a l_l l_c), (3, Value.int IntKind.i64 i)], todo := pt Try.prog fRef13links [1, 0, 1, 0, 0] } m n Q =
 (bif decide (i < (↑l_l : Int)) then
 elimA l_a False fun (k0 k1 : Nat) (p2 : Option Nat) =>
 (0 ≤ i ∧ i < (↑l_l : Int) ∧ liveAt m k0 = true ∧ (p2 ≠ none → 0 < l_c)) ∧
 ∃ (x3 : Int),
 rd m k0 (offOf k1 p2 + i.toNat * 1) = some (Value.int IntKind.i64 x3) ∧
 bif decide (x3 < 0) then Q (Value.int IntKind.i64 2) m n
 else
 elimA l_a False fun (k4 k5 : Nat) (p6 : Option Nat) =>
 (0 ≤ i ∧ i < (↑l_l : Int) ∧ liveAt m k4 = true ∧ (p6 ≠ none → 0 < l_c)) ∧
 ∃ (x7 : Int),
 rd m k4 (offOf k5 p6 + i.toNat * 1) = some (Value.int IntKind.i64 x7) ∧
 bif decide (x7 ≥ 128) then Q (Value.int IntKind.i64 2) m n
 else
 bif decide (i > 0) then elimA l_a False fun (k8 k9 : Nat) (p10 : Option Nat) => (0 ≤ i ∧ i < (↑l_l : Int) ∧ liveAt m k8 = true ∧ (p10 ≠ none → 0 < l_c)) ∧ ∃ (x11 : Int), rd m k8 (offOf k9 p10 + i.toNat * 1) = some (Value.int IntKind.i64 x11) ∧ elimA l_a False fun (k12 k13 : Nat) (p14 : Option Nat) => (0 ≤ IntKind.i64.wrap (i - 1) ∧ IntKind.i64.wrap (i - 1) < (↑l_l : Int) ∧ liveAt m k12 = true ∧ (p14 ≠ none → 0 < l_c)) ∧ ∃ (x15 : Int), rd m k12 (offOf k13 p14 + (IntKind.i64.wrap (i - 1)).toNat * 1) = some (Value.int IntKind.i64 x15) ∧ bif decide (x11 ≤ x15) then Q (Value.int IntKind.i64 10) m (n + 14) else W Try.prog { fn := fRef13links, nt := 36, slots := [(0, Value.slice l_a l_l l_c), (3, Value.int IntKind.i64 (IntKind.i64.wrap (i + 1)))], todo := pt Try.prog fRef13links [1, 0, 1, 0, 0] } m (n + 14) Q
 else W Try.prog { fn := fRef13links, nt := 36, slots := [(0, Value.slice l_a l_l l_c), (3, Value.int IntKind.i64 (IntKind.i64.wrap (i + 1)))], todo := pt Try.prog fRef13links [1, 0, 1, 0, 0] } m (n + 14) Q
 else Q (Value.int IntKind.i64 0) m n) := by kernel_rfl

/- 45 cmp.Or[int] -/
theorem xCmpOrint (m : Mem) (n : Nat) (Q : Value → Mem → Nat → Prop) (vals_a : Option Addr) (vals_l : Nat) (vals_c : Nat) :
 Xc Try.prog xcfg 400 fCmpOrint [Value.slice vals_a vals_l vals_c] m n Q =
 (W Try.prog { fn := fCmpOrint, nt := 18, slots := [(3, Value.int IntKind.i64 0), (6, Value.slice vals_a vals_l vals_c), (7, Value.int IntKind.i64 (↑vals_l : Int)), (8, Value.int IntKind.i64 0)], todo := pt Try.prog fCmpOrint [1, 1, 0, 1, 0, 0] } m n Q) := by kernel_rfl

theorem xCmpOrintk0 (m : Mem) (n : Nat) (Q : Value → Mem → Nat → Prop) (vals_a : Option Addr) (vals_l : Nat) (vals_c : Nat) (t7 : Int) (t8 : Int) :
 xF (evX Try.prog xcfg 400) { fn := fCmpOrint, nt := 18, slots := [(3, Value.int IntKind.i64 0), (6, Value.slice vals_a vals_l vals_c), (7, Value.int IntKind.i64 t7), (8, Value.int IntKind.i64 t8)], todo := pt Try.prog fCmpOrint [1, 1, 0, 1, 0, 0] } m n Q =
 (bif decide (t8 < t7) then elimA vals_a False fun (k0 k1 : Nat) (p2 : Option Nat) => (0 ≤ t8 ∧ t8 < (↑vals_l : Int) ∧ liveAt m k0 = true ∧ (p2 ≠ none → 0 < vals_c)) ∧ ∃ (x3 : Int), rd m k0 (offOf k1 p2 + t8.toNat * 1) = some (Value.int IntKind.i64 x3) ∧ bif x3 != 0 then Q (Value.int IntKind.i64 x3) m n else W Try.prog { fn := fCmpOrint, nt := 18, slots := [(3, Value.int IntKind.i64 0), (6, Value.slice vals_a vals_l vals_c), (7, Value.int IntKind.i64 t7), (8, Value.int IntKind.i64 (IntKind.i64.wrap (t8 + 1)))], todo := pt Try.prog fCmpOrint [1, 1, 0, 1, 0, 0] } m n Q else Q (Value.int IntKind.i64 0) m n) := by kernel_rfl

/- 46 cmp.Compare[int] -/
theorem xCmpCompareint (m : Mem) (n : Nat) (Q : Value → Mem → Nat → Prop) (x : Int) (y : Int) :
 Xc Try.prog xcfg 400 fCmpCompareint [Value.int IntKind.i64 x, Value.int IntKind.i64 y] m n Q =
 (Wc Try.prog fCmpisNaNint [Value.int IntKind.i64 x] m n fun (v0 : Value) (m1 : Mem) (k2 : Nat) => ∃ (b3 : Bool), v0 = Value.bool b3 ∧ Later (Wc Try.prog fCmpisNaNint [Value.int IntKind.i64 y] m1 k2 fun (v4 : Value) (m5 : Mem) (k6 : Nat) => ∃ (b7 : Bool), v4 = Value.bool b7 ∧ Later (bif b3 then bif b7 then Q (Value.int IntKind.i64 0) m5 k6 else Q (Value.int IntKind.i64 (-1)) m5 k6 else bif b7 then Q (Value.int IntKind.i64 1) m5 k6 else bif decide (x < y) then Q (Value.int IntKind.i64 (-1)) m5 k6 else bif decide (x > y) then Q (Value.int IntKind.i64 1) m5 k6 else Q (Value.int IntKind.i64 0) m5 k6))) := by kernel_rfl

/- 47 slices.Compare[[]int,int] -/
theorem xSlicesCompareLintint (m : Mem) (n : Nat) (Q : Value → Mem → Nat → Prop) (s1_a : Option Addr) (s1_l : Nat) (s1_c : Nat) (s2_a : Option Addr) (s2_l : Nat) (s2_c : Nat) :
 Xc Try.prog xcfg 400 fSlicesCompareLintint [Value.slice s1_a s1_l s1_c, Value.slice s2_a s2_l s2_c] m n Q =
 (W Try.prog { fn := fSlicesCompareLintint, nt := 36, slots := [(0, Value.slice s1_a s1_l s1_c), (1, Value.slice s2_a s2_l s2_c), (9, Value.slice s1_a s1_l s1_c), (10, Value.int IntKind.i64 (↑s1_l : Int)), (11, Value.int IntKind.i64 0)], todo := pt Try.prog fSlicesCompareLintint [1, 0, 1, 0, 0] } m n Q) := by kernel_rfl

theorem xSlicesCompareLintintk0 (m : Mem) (n : Nat) (Q : Value → Mem → Nat → Prop) (s1_a : Option Addr) (s1_l : Nat) (s1_c : Nat) (s2_a : Option Addr) (s2_l : Nat) (s2_c : Nat) (t10 : Int) (t11 : Int) :
 xF (evX Try.prog xcfg 400) { fn := fSlicesCompareLintint, nt := 36, slots := [(0, Value.slice s1_a s1_l s1_c), (1, Value.slice s2_a s2_l s2_c), (9, Value.slice s1_a s1_l s1_c), (10, Value.int IntKind.i64 t10), (11, Value.int IntKind.i64 t11)], todo := pt Try.prog fSlicesCompareLintint [1, 0, 1, 0, 0] } m n Q =
 (bif decide (t11 < t10) then
 elimA s1_a False fun (k0 k1 : Nat) (p2 : Option Nat) =>
 (0 ≤ t11 ∧ t11 < (↑s1_l : Int) ∧ liveAt m k0 = true ∧ (p2 ≠ none → 0 < s1_c)) ∧
 ∃ (x3 : Int),
 rd m k0 (offOf k1 p2 + t11.toNat * 1) = some (Value.int IntKind.i64 x3) ∧
 bif decide (t11 ≥ (↑s2_l : Int)) then Q (Value.int IntKind.i64 1) m n else elimA s2_a False fun (k4 k5 : Nat) (p6 : Option Nat) => (0 ≤ t11 ∧ t11 < (↑s2_l : Int) ∧ liveAt m k4 = true ∧ (p6 ≠ none → 0 < s2_c)) ∧ ∃ (x7 : Int), rd m k4 (offOf k5 p6 + t11.toNat * 1) = some (Value.int IntKind.i64 x7) ∧ Wc Try.prog fCmpCompareint [Value.int IntKind.i64 x3, Value.int IntKind.i64 x7] m n fun (v8 : Value) (m9 : Mem) (k10 : Nat) => ∃ (x11 : Int), v8 = Value.int IntKind.i64 x11 ∧ Later (bif x11 != 0 then Q (Value.int IntKind.i64 x11) m9 k10 else W Try.prog { fn := fSlicesCompareLintint, nt := 36, slots := [(0, Value.slice s1_a s1_l s1_c), (1, Value.slice s2_a s2_l s2_c), (9, Value.slice s1_a s1_l s1_c), (10, Value.int IntKind.i64 t10), (11, Value.int IntKind.i64 (IntKind.i64.wrap (t11 + 1)))], todo := pt Try.prog fSlicesCompareLintint [1, 0, 1, 0, 0] } m9 k10 Q)
 else bif decide ((↑s1_l : Int) < (↑s2_l : Int)) then Q (Value.int IntKind.i64 (-1)) m n else Q (Value.int IntKind.i64 0) m n) := by kernel_rfl

/- 48 leafmesh/leafmeshref13.compare -/
theorem xRef13compare (m : Mem) (n : Nat) (Q : Value → Mem → Nat → Prop) (a_a : Option Addr) (a_l : Nat) (a_c : Nat) (b_a : Option Addr) (b_l : Nat) (b_c : Nat) :
 Xc Try.prog xcfg 400 fRef13compare [Value.slice a_a a_l a_c, Value.slice b_a b_l b_c] m n Q =
 (W Try.prog { fn := fRef13compare, nt := 48, slots := [(0, Value.slice a_a a_l a_c), (1, Value.slice b_a b_l b_c), (5, Value.int IntKind.i64 0)], todo := pt Try.prog fRef13compare [1, 0, 1, 0, 0] } m n Q) := by kernel_rfl

theorem xRef13comparek0 (m : Mem) (n : Nat) (Q : Value → Mem → Nat → Prop) (a_a : Option Addr) (a_l : Nat) (a_c : Nat) (b_a : Option Addr) (b_l : Nat) (b_c : Nat) (i : Int) :
 xF (evX Try.prog xcfg 400) { fn := fRef13compare, nt := 48, slots := [(0, Value.slice a_a a_l a_c), (1, Value.slice b_a b_l b_c), (5, Value.int IntKind.i64 i)], todo := pt Try.prog fRef13compare [1, 0, 1, 0, 0] } m n Q =
 (bif decide (i < (↑a_l : Int)) then
 bif decide (i < (↑b_l : Int)) then
 elimA a_a False fun (k0 k1 : Nat) (p2 : Option Nat) =>
 (0 ≤ i ∧ i < (↑a_l : Int) ∧ liveAt m k0 = true ∧ (p2 ≠ none → 0 < a_c)) ∧
 ∃ (x3 : Int),
 rd m k0 (offOf k1 p2 + i.toNat * 1) = some (Value.int IntKind.i64 x3) ∧
 elimA b_a False fun (k4 k5 : Nat) (p6 : Option Nat) =>
 (0 ≤ i ∧ i < (↑b_l : Int) ∧ liveAt m k4 = true ∧ (p6 ≠ none → 0 < b_c)) ∧
 ∃ (x7 : Int),
 rd m k4 (offOf k5 p6 + i.toNat * 1) = some (Value.int IntKind.i64 x7) ∧
 bif decide (x3 < x7) then Q (Value.int IntKind.i64 (-1)) m (n + 9) else elimA a_a False fun (k8 k9 : Nat) (p10 : Option Nat) => (0 ≤ i ∧ i < (↑a_l : Int) ∧ liveAt m k8 = true ∧ (p10 ≠ none → 0 < a_c)) ∧ ∃ (x11 : Int), rd m k8 (offOf k9 p10 + i.toNat * 1) = some (Value.int IntKind.i64 x11) ∧ elimA b_a False fun (k12 k13 : Nat) (p14 : Option Nat) => (0 ≤ i ∧ i < (↑b_l : Int) ∧ liveAt m k12 = true ∧ (p14 ≠ none → 0 < b_c)) ∧ ∃ (x15 : Int), rd m k12 (offOf k13 p14 + i.toNat * 1) = some (Value.int IntKind.i64 x15) ∧ bif decide (x11 > x15) then Q (Value.int IntKind.i64 1) m (n + 9 + 9) else W Try.prog { fn := fRef13compare, nt := 48, slots := [(0, Value.slice a_a a_l a_c), (1, Value.slice b_a b_l b_c), (5, Value.int IntKind.i64 (IntKind.i64.wrap (i + 1)))], todo := pt Try.prog fRef13compare [1, 0, 1, 0, 0] } m (n + 9 + 9) Q
 else bif decide ((↑a_l : Int) < (↑b_l : Int)) then Q (Value.int IntKind.i64 (-1)) m n else bif decide ((↑a_l : Int) > (↑b_l : Int)) then Q (Value.int IntKind.i64 1) m n else Q (Value.int IntKind.i64 0) m n
 else bif decide ((↑a_l : Int) < (↑b_l : Int)) then Q (Value.int IntKind.i64 (-1)) m n else bif decide ((↑a_l : Int) > (↑b_l : Int)) then Q (Value.int IntKind.i64 1) m n else Q (Value.int IntKind.i64 0) m n) := by kernel_rfl

/- 61 cmp.isNaN[int] -/
theorem xCmpisNaNint (m : Mem) (n : Nat) (Q : Value → Mem → Nat → Prop) (x : Int) :
 Xc Try.prog xcfg 400 fCmpisNaNint [Value.int IntKind.i64 x] m n Q =
 (Q (Value.bool (x != x)) m n) := by kernel_rfl

end Go.Proofs.Ytjjgdapagphleaa
