/- E11: what parts of the program compute; helper of the claim. -/
import Derived.Test.YtblijemhmpfihaaProg
import Derived.KernelRfl
import Derived.Test.YtblijemhmpfihaaAb33
namespace Go.Proofs.Ytblijemhmpfihaa
open Go Go.Ab
set_option maxRecDepth 100000
abbrev fLaw11SpreadKnown : Nat := 3
abbrev fLaw11SpreadFair : Nat := 4
abbrev fLaw11SpreadGone : Nat := 5
abbrev fLaw11SpreadComes : Nat := 6
abbrev fLaw11SpreadSets : Nat := 7
abbrev fLaw11SpreadNone : Nat := 8
abbrev fLaw11SpreadHash : Nat := 9
abbrev fSpreadNew : Nat := 10
abbrev fSpreadWheelPick : Nat := 11
abbrev fKitSameint : Nat := 12
abbrev fSpreadWheelBuckets : Nat := 13
abbrev fSpreadWheelSet : Nat := 14
abbrev fLaw11sets : Nat := 15
abbrev fSpreadWheelMembers : Nat := 16
abbrev fLaw11awake : Nat := 17
abbrev fLaw11short : Nat := 18
abbrev fLaw11wheel : Nat := 19
abbrev fSpreadWheelLoad : Nat := 20
abbrev fKitHasint : Nat := 21
abbrev fKitPick : Nat := 22
abbrev fLaw11members : Nat := 23
abbrev fKitOwnint : Nat := 24
abbrev fRef11New : Nat := 25
abbrev fLaw11same : Nat := 26
abbrev fSpreadWheelCopy : Nat := 27
abbrev fRef11WheelCopy : Nat := 28
abbrev fRef11WheelSet : Nat := 29
abbrev fSpreadHash : Nat := 30
abbrev fRef11Hash : Nat := 31
abbrev fSlicesRepeatLintint : Nat := 32
abbrev fSpreadWheelvalid : Nat := 33
abbrev fSlicesCloneLintint : Nat := 34
abbrev fSlicesContainsLintint : Nat := 35
abbrev fSpreadstateleast : Nat := 36
abbrev fSpreadstateload : Nat := 37
abbrev fSpreadstatemost : Nat := 38
abbrev fSlicesBackwardLintint : Nat := 39
abbrev fRef11WheelLoad : Nat := 40
abbrev fRef11WheelPick : Nat := 41
abbrev fRef11is : Nat := 42
abbrev fRef11Wheelleast : Nat := 43
abbrev fRef11Wheelmost : Nat := 44
abbrev fSpreadfoldbyteuint64 : Nat := 45
abbrev fSpreadfields : Nat := 46
abbrev fSpreadHash1 : Nat := 47
abbrev fRef11Bytes : Nat := 48
abbrev fMathbitsMul : Nat := 49
abbrev fSlicesIndexLintint : Nat := 50
abbrev fSlicesMinFuncLintint : Nat := 51
abbrev fSpreadstateleast1 : Nat := 52
abbrev fSlicesReverseLintint : Nat := 53
abbrev fSlicesMaxFuncLintint : Nat := 54
abbrev fSpreadstatemost1 : Nat := 55
abbrev fSlicesBackwardLintint1 : Nat := 56
abbrev fSpreadfields1 : Nat := 57
abbrev fMathbitsMul32 : Nat := 58
abbrev fMathbitsMul64 : Nat := 59
abbrev t : Nat := 0
abbrev tFunc : Nat := 1
abbrev tInt64 : Nat := 2
abbrev tInt : Nat := 3
abbrev tBool : Nat := 4
abbrev tUint8 : Nat := 5
abbrev tAbiBoundsErrorCode : Nat := 6
abbrev tStructxint64yintsignedboolcodeabiBoundsErrorCode : Nat := 7
abbrev tRuntimeboundsError : Nat := 8
abbrev tString : Nat := 9
abbrev tRuntimeerrorString : Nat := 10
abbrev tRuntimeplainError : Nat := 11
abbrev tUintptr : Nat := 12
abbrev tStructmsgstringaddruintptr : Nat := 13
abbrev tRuntimeerrorAddressString : Nat := 14
abbrev tPruntimeTypeAssertionError : Nat := 15
abbrev tPruntimePanicNilError : Nat := 16
abbrev tPabiType : Nat := 17
abbrev tStructtypPabiType : Nat := 18
abbrev tMapsunhashableTypeError : Nat := 19
abbrev tInterface : Nat := 20
abbrev tInt32 : Nat := 21
abbrev tPspreadWheel : Nat := 22
abbrev tApiErrno : Nat := 23
abbrev tSpreadWheelapiErrno : Nat := 24
abbrev tFuncintspreadWheelapiErrno : Nat := 25
abbrev tIntbool : Nat := 26
abbrev tFuncuint64intbool : Nat := 27
abbrev tUint64 : Nat := 28
abbrev tFuncLintLintbool : Nat := 29
abbrev tLint : Nat := 30
abbrev tFuncLint : Nat := 31
abbrev tFuncLintapiErrno : Nat := 32
abbrev tFuncspreadWheelLintLintbool : Nat := 33
abbrev tFuncbool : Nat := 34
abbrev tLLint : Nat := 35
abbrev tFuncLLintbool : Nat := 36
abbrev tFuncintLLintPspreadWheel : Nat := 37
abbrev tFuncintint : Nat := 38
abbrev tFuncLintintbool : Nat := 39
abbrev tFuncintLLintbool : Nat := 40
abbrev tFuncintintint : Nat := 41
abbrev tFuncintLLintLintbool : Nat := 42
abbrev tFuncLintintLint : Nat := 43
abbrev tFuncLintLint : Nat := 44
abbrev tPref11Wheel : Nat := 45
abbrev tRef11WheelapiErrno : Nat := 46
abbrev tFuncintref11WheelapiErrno : Nat := 47
abbrev tFuncspreadWheelPref11Wheeluint64bool : Nat := 48
abbrev tFuncPspreadWheel : Nat := 49
abbrev tFuncPref11Wheel : Nat := 50
abbrev tFuncintLLintuint64bool : Nat := 51
abbrev tPspreadstate : Nat := 52
abbrev tStructPspreadstate : Nat := 53
abbrev tSpreadWheel : Nat := 54
abbrev tLPspreadWheel : Nat := 55
abbrev tFuncintuint64bool : Nat := 56
abbrev tUint32 : Nat := 57
abbrev tApiIP : Nat := 58
abbrev tApiMAC : Nat := 59
abbrev tStructOpintSenderMACapiMACSenderIPapiIPTargetMACapiMACTargetIPapiIP : Nat := 60
abbrev tApiARP : Nat := 61
abbrev tStructSrcapiIPDstapiIPTTLintProtointSrcPortintDstPortint : Nat := 62
abbrev tApiHead : Nat := 63
abbrev tStructSrcapiMACDstapiMACKindintARPapiARPIPapiHeadDatauint64 : Nat := 64
abbrev tApiFrame : Nat := 65
abbrev tStructSrcapiIPDstapiIPTTLintEntropyintVNIuint32Markuint32InnerapiFrame : Nat := 66
abbrev tApiPacket : Nat := 67
abbrev tFuncapiPacketuint64 : Nat := 68
abbrev tFuncapiPacketintintuint32apiFramebool : Nat := 69
abbrev tStructmembersLintbucketsLint : Nat := 70
abbrev tSpreadstate : Nat := 71
abbrev tFuncint : Nat := 72
abbrev tFuncfuncintintbool : Nat := 73
abbrev tIterSeq2intint : Nat := 74
abbrev tFuncLintiterSeq2intint : Nat := 75
abbrev tStructMLintBLint : Nat := 76
abbrev tRef11Wheel : Nat := 77
abbrev tFunciterSequint8uint64funcuint64uint8uint64uint64 : Nat := 78
abbrev tFuncfuncuint8bool : Nat := 79
abbrev tIterSequint8 : Nat := 80
abbrev tFuncapiPacketiterSequint8 : Nat := 81
abbrev tFuncuint64uint8uint64 : Nat := 82
abbrev tLuint8 : Nat := 83
abbrev tFuncapiPacketLuint8 : Nat := 84
abbrev tUint : Nat := 85
abbrev tUintuint : Nat := 86
abbrev tFuncuintuintuintuint : Nat := 87
abbrev tFuncLintintint : Nat := 88
abbrev tFuncLintfuncintintintint : Nat := 89
abbrev tFuncLintv1 : Nat := 90
abbrev tFuncintintbool : Nat := 91
abbrev tFuncuint8bool : Nat := 92
abbrev tStructvalueuint64sizeint : Nat := 93
abbrev tLstructvalueuint64sizeint : Nat := 94
abbrev tUint32uint32 : Nat := 95
abbrev tFuncuint32uint32uint32uint32 : Nat := 96
abbrev tUint64uint64 : Nat := 97
abbrev tFuncuint64uint64uint64uint64 : Nat := 98
abbrev tFuncstring : Nat := 99
abbrev tStructinterfacePabiTypeconcretePabiTypeassertedPabiTypemissingMethodstring : Nat := 100
abbrev tRuntimeTypeAssertionError : Nat := 101
abbrev t0PruntimePanicNilError : Nat := 102
abbrev tStruct0PruntimePanicNilError : Nat := 103
abbrev tRuntimePanicNilError : Nat := 104
abbrev tAbiTFlag : Nat := 105
abbrev tAbiKind : Nat := 106
abbrev tFuncunsafePointerunsafePointerbool : Nat := 107
abbrev tPuint8 : Nat := 108
abbrev tAbiNameOff : Nat := 109
abbrev tAbiTypeOff : Nat := 110
abbrev tStructSizeuintptrPtrBytesuintptrHashuint32TFlagabiTFlagAlignuint8FieldAlignuint8KindabiKindEqualfuncunsafePointerunsafePointerboolGCDataPuint8StrabiNameOffPtrToThisabiTypeOff : Nat := 111
abbrev tAbiType : Nat := 112
abbrev tUnsafePointer : Nat := 113
noncomputable def xcfg : Cfg := mkCfg [] [(4, [(0, [0, 1]), (1, [0, 1, 5]), (2, [0, 1, 5, 18]), (3, [4]), (4, [5, 6]), (5, [5, 6, 24]), (6, [4]), (7, [5, 6, 7, 8]), (8, [5, 6, 7, 8, 31]), (9, [4]), (10, [5, 6, 7, 8, 9, 10]), (11, [5, 6, 7, 8, 9, 10, 11]), (12, [5, 6, 7, 8, 9, 10, 11, 38]), (13, [5, 6, 7, 8, 9, 10, 11]), (14, [5, 6, 7, 8, 9, 10, 11, 12]), (15, [5, 6, 7, 8, 9, 10, 11, 12, 13]), (16, [5, 6, 7, 8, 9, 10, 11, 12, 13, 44]), (17, [5, 6, 7, 8, 9, 10, 11, 12, 13]), (18, [5, 6, 7, 8, 9, 10, 11, 12, 13, 55]), (19, [5, 6, 7, 8, 9, 10, 11, 12, 13]), (20, [5, 6, 7, 8, 9, 10, 11, 12]), (21, [5, 6, 7, 8, 9, 10, 11, 71]), (22, [4]), (23, [5, 6, 7, 8, 9, 10, 14]), (24, [5, 6, 7, 8, 9, 10, 14, 75]), (25, [5, 6, 7, 8, 9, 10, 14]), (26, [5, 6, 7, 8, 9, 10, 14, 84]), (27, [4]), (28, [4]), (1000012, [5, 6, 7, 8, 9, 10, 11]), (1000016, [5, 6, 7, 8, 9, 10, 11, 12, 13]), (1000024, [5, 6, 7, 8, 9, 10, 14])]), (5, [(0, [0, 1, 2]), (1, [0, 1, 2, 7]), (2, [0, 1, 2, 7, 25]), (3, [6]), (4, [2, 7, 8]), (5, [2, 7, 8, 31]), (6, [6]), (7, [2, 7, 8, 9, 10]), (8, [2, 7, 8, 9, 10, 11]), (9, [2, 7, 8, 9, 10, 11, 12]), (10, [2, 7, 8, 9, 10, 11, 12, 39]), (11, [2, 7, 8, 9, 10, 11, 12]), (12, [2, 7, 8, 9, 10, 11, 12, 13]), (13, [2, 7, 8, 9, 10, 11, 12, 13, 14]), (14, [2, 7, 8, 9, 10, 11, 12, 13, 14, 45]), (15, [2, 7, 8, 9, 10, 11, 12, 13, 14]), (16, [2, 7, 8, 9, 10, 11, 12, 13, 14]), (17, [2, 7, 8, 9, 10, 11, 12, 61]), (18, [2, 7, 8, 9, 10, 11, 12]), (19, [7, 8, 9, 11, 71]), (20, [6]), (21, [7, 8, 9, 11, 76]), (22, [6]), (23, [7, 9, 11, 15]), (24, [7, 9, 11, 15, 83]), (25, [6]), (26, [7, 9, 11, 15, 16]), (27, [7, 9, 11, 15, 16, 87]), (28, [7, 9, 11, 15, 16]), (29, [7, 9, 11, 15, 16, 106]), (30, [6]), (31, [6]), (1000010, [2, 7, 8, 9, 10, 11, 12]), (1000014, [2, 7, 8, 9, 10, 11, 12, 13, 14]), (1000027, [7, 9, 11, 15, 16])]), (6, [(0, [0, 1, 2]), (1, [0, 1, 2, 7]), (2, [0, 1, 2, 7, 24]), (3, [6]), (4, [2, 7, 8]), (5, [2, 7, 8, 30]), (6, [6]), (7, [2, 7, 8, 9, 10]), (8, [7, 8, 9, 10, 11]), (9, [7, 8, 9, 10, 11, 49]), (10, [6]), (11, [7, 8, 9, 10, 11, 54]), (12, [6]), (13, [7, 8, 9, 10, 11, 12]), (14, [7, 8, 9, 10, 11, 12, 61]), (15, [6]), (16, [7, 8, 9, 10, 11, 12, 13]), (17, [7, 8, 9, 10, 11, 12, 13, 65]), (18, [7, 8, 9, 10, 11, 12, 13]), (19, [7, 8, 9, 10, 11, 12, 13, 84]), (20, [6]), (21, [7, 8, 10, 11, 14]), (22, [7, 8, 10, 11, 14, 88]), (23, [7, 8, 10, 11, 14]), (24, [7, 8, 10, 11, 14, 15]), (25, [7, 8, 10, 11, 14, 15, 94]), (26, [7, 8, 10, 11, 14, 15]), (27, [7, 8, 10, 11, 14, 15, 118]), (28, [6]), (29, [6]), (1000017, [7, 8, 9, 10, 11, 12, 13]), (1000022, [7, 8, 10, 11, 14]), (1000025, [7, 8, 10, 11, 14, 15])]), (7, [(0, [0, 1, 2]), (1, [0, 1, 2, 19]), (2, [6]), (3, [0, 1, 2, 7, 8]), (4, [1, 2, 7, 8, 9, 10]), (5, [1, 2, 7, 9, 40]), (6, [6]), (7, [1, 2, 7, 9, 42]), (8, [6]), (9, [1, 2, 7, 9, 48]), (10, [6]), (11, [1, 2, 7, 9, 11]), (12, [1, 2, 7, 9, 11, 52]), (13, [1, 2, 7, 9, 11]), (14, [1, 2, 7, 9, 11, 60]), (15, [6]), (16, [1, 2, 7, 9, 11, 64]), (17, [1, 2, 7, 9, 11, 12]), (18, [1, 2, 7, 9, 11, 12]), (19, [1, 2, 7, 9, 11]), (20, [1, 2, 7, 9, 11, 13]), (21, [1, 2, 7, 9, 11, 13, 14, 15]), (22, [1, 2, 7, 9, 11, 13, 97]), (23, [6]), (24, [1, 2, 7, 9, 11, 13, 16]), (25, [1, 2, 7, 9, 11, 13, 16, 101]), (26, [1, 2, 7, 9, 11, 13, 16]), (27, [1, 2, 7, 9, 11, 13, 16]), (28, [1, 2, 7, 9, 11, 114]), (29, [6]), (30, [6]), (1000012, [1, 2, 7, 9, 11]), (1000025, [1, 2, 7, 9, 11, 13, 16]), (2000020, [1, 2, 7, 9, 11])]), (9, [(0, [1, 2, 3, 5, 9]), (1, [1, 2, 3, 5, 9, 11]), (2, [2, 3, 5, 11]), (3, [3, 5, 11]), (4, [5, 11]), (5, [10])]), (10, [(0, [0]), (1, [0, 9]), (2, [2, 3]), (3, [2, 3])]), (11, [(0, [0, 1]), (1, [0, 1, 19]), (2, [4, 5]), (3, [4, 5])]), (12, [(0, [0, 1]), (1, [0, 1, 10]), (2, [4]), (3, [0, 1, 5]), (4, [0, 1, 5, 14]), (5, [0, 1, 5]), (6, [0, 1, 5, 25]), (7, [4]), (8, [4]), (1000004, [0, 1, 5])]), (13, [(0, [0]), (1, [0, 5]), (2, [2]), (3, [2])]), (14, [(0, [1, 2, 164, 165]), (1, [1, 2, 17, 164, 165]), (2, [4]), (3, [1, 2, 18, 19, 20, 164, 165]), (4, [1, 2, 18, 19, 20, 21, 164, 165]), (5, [1, 2, 5, 6, 18, 19, 20, 164, 165]), (6, [1, 2, 5, 6, 18, 19, 20, 25, 164, 165]), (7, [4]), (8, [1, 2, 18, 19, 20, 32, 164, 165]), (9, [4]), (10, [1, 2, 18, 19, 20, 164, 165]), (11, [1, 2, 55, 164, 165]), (12, [4]), (13, [1, 2, 164, 165]), (14, [1, 2, 70, 71, 72, 164, 165]), (15, [1, 2, 70, 71, 72, 73, 164, 165]), (16, [1, 2, 7, 8, 70, 71, 72, 164, 165]), (17, [1, 2, 7, 70, 71, 72, 80, 164, 165]), (18, [1, 2, 70, 71, 72, 164, 165]), (19, [1, 2, 70, 71, 72, 164, 165]), (20, [2, 93, 164, 165]), (21, [4]), (22, [2, 100, 101, 102, 164, 165]), (23, [2, 100, 101, 102, 103, 164, 165]), (24, [2, 9, 10, 100, 101, 102, 164, 165]), (25, [2, 9, 100, 101, 102, 108, 164, 165]), (26, [2, 100, 101, 102, 164, 165]), (27, [2, 100, 101, 102, 164, 165]), (28, [2, 145, 164, 165]), (29, [2, 11, 12, 164, 165]), (30, [2, 11, 12, 163, 164, 165]), (31, [2, 11, 12, 13, 164, 165]), (32, [2, 11, 12, 13, 14, 164, 165]), (33, [2, 12, 13, 164, 165, 168]), (34, [2, 164, 165]), (35, [4]), (1000004, [1, 2, 18, 19, 20, 164, 165]), (1000015, [1, 2, 70, 71, 72, 164, 165]), (1000023, [2, 100, 101, 102, 164, 165]), (1000028, [2, 164, 165]), (2000001, [1, 2, 164, 165])]), (15, [(0, [0, 1, 2]), (1, [6])]), (16, [(0, [0]), (1, [0, 5]), (2, [2]), (3, [2])]), (17, [(0, []), (1, [1, 2]), (2, [1, 28]), (3, [0]), (4, [1, 3, 4]), (5, [0])]), (18, [(0, [0]), (1, [0, 3]), (2, [0, 3, 7]), (3, [0, 3]), (4, [0, 3, 15]), (5, [2]), (6, [2]), (1000002, [0, 3])]), (19, [(0, [0, 1]), (1, [0, 1, 5, 6]), (2, [0, 1, 5, 20]), (3, [4]), (4, [0, 1, 5, 7]), (5, [0, 1, 5, 7, 24]), (6, [0, 1, 5, 7]), (7, [0, 1, 5, 7, 37]), (8, [4]), (9, [4]), (1000005, [0, 1, 5, 7])]), (20, [(0, [0, 1]), (1, [0, 1, 11]), (2, [4]), (3, [4])]), (21, [(0, [0, 1]), (1, [0, 1, 5]), (2, [0, 1, 5, 9]), (3, [0, 1, 5]), (4, [0, 1, 5, 17]), (5, [4]), (6, [4]), (1000002, [0, 1, 5])]), (22, [(0, [0, 1]), (1, [0, 1]), (2, [0, 1, 9]), (3, [0]), (4, [4])]), (23, [(0, [0, 1]), (1, [0, 1, 5]), (2, [0, 1, 5, 6]), (3, [0, 1, 5, 6, 15]), (4, [0, 1, 5, 6]), (5, [0, 1, 5, 6, 7]), (6, [0, 1, 5, 6, 7, 21]), (7, [0, 1, 5, 6, 7]), (8, [0, 1, 5, 6, 7, 30]), (9, [0, 1, 5, 6]), (10, [4]), (1000003, [0, 1, 5, 6]), (1000006, [0, 1, 5, 6, 7])]), (24, [(0, [0]), (1, [2])]), (25, [(0, [0]), (1, [0, 11]), (2, [2, 3]), (3, [0, 4]), (4, [0, 4, 5]), (5, [0, 4, 5, 16]), (6, [0, 4, 5]), (7, [0, 4, 5]), (8, [2, 3]), (1000005, [0, 4, 5])]), (26, [(0, [0, 1, 2]), (1, [0, 1, 2, 7, 8]), (2, [0, 1, 2, 7, 8, 34]), (3, [6]), (4, [0, 1, 2, 7, 8, 9]), (5, [0, 1, 2, 7, 8, 9, 38]), (6, [0, 1, 2, 7, 8, 9]), (7, [0, 1, 2, 7, 8, 9]), (8, [0, 1, 2, 8, 10]), (9, [0, 1, 2, 8, 10, 47]), (10, [0, 1, 2, 8, 10]), (11, [0, 1, 2, 8, 10, 68]), (12, [6]), (13, [0, 1, 2, 8, 10]), (14, [0, 1, 2, 11, 12]), (15, [0, 11, 12, 13, 14]), (16, [6]), (1000005, [0, 1, 2, 7, 8, 9]), (1000009, [0, 1, 2, 8, 10])]), (27, [(0, [0]), (1, [0, 5]), (2, [2]), (3, [2])]), (28, [(0, [0]), (1, [2])]), (29, [(0, [0, 1]), (1, [0, 1, 5]), (2, [0, 1, 5, 15]), (3, [0, 1, 5]), (4, [0, 1, 5, 29]), (5, [4]), (6, [0, 1, 5, 43]), (7, [4]), (8, [0, 1, 51]), (9, [4]), (10, [0, 1]), (11, [0, 1, 6]), (12, [0, 1, 6, 64]), (13, [0, 1, 6]), (14, [0, 1, 6, 76]), (15, [0, 1, 6]), (16, [0, 85]), (17, [4]), (18, [0, 7]), (19, [0, 7, 92]), (20, [0, 7]), (21, [0, 7, 102]), (22, [0, 7]), (23, [0, 120]), (24, [0, 8, 9]), (25, [0, 8, 9, 10]), (26, [0, 8, 9, 10, 11]), (27, [0, 8, 9, 10, 11, 131]), (28, [0, 8, 9, 10, 11]), (29, [0, 8, 9, 10, 11, 142]), (30, [0, 8, 9, 10, 11]), (31, [0]), (32, [4]), (1000002, [0, 1, 5]), (1000012, [0, 1, 6]), (1000019, [0, 7]), (1000023, [0]), (1000027, [0, 8, 9, 10, 11])]), (30, [(0, [1]), (1, [2])]), (31, [(0, [1]), (1, [1, 3]), (2, [3, 4]), (3, [3, 4, 5]), (4, [3, 4, 5, 11]), (5, [3, 4, 5]), (6, [3, 4, 5]), (7, [2]), (1000004, [3, 4, 5])]), (32, [(0, [0, 1]), (1, [0, 1, 10]), (2, [0, 1]), (3, [0, 5, 6]), (4, [0, 6, 26]), (5, [0, 6]), (6, [0, 7]), (7, [7, 8]), (8, [7, 8, 37]), (9, [7, 8]), (10, [4]), (1000008, [7, 8]), (2000003, [0, 1]), (2000006, [0, 6])]), (33, [(0, [0]), (1, [2])]), (34, [(0, [0]), (1, [0, 4]), (2, [2]), (3, [2])]), (35, [(0, [0, 1]), (1, [4])]), (36, [(0, [1]), (1, [2])]), (37, [(0, [0, 1]), (1, [0, 1, 5]), (2, [1, 5, 11, 12, 13]), (3, [1, 5, 11, 12, 13, 14]), (4, [1, 5, 7, 11, 12, 13]), (5, [1, 5, 11, 12, 13, 19]), (6, [1, 5, 11, 12, 13]), (7, [1, 5, 11, 12, 13]), (8, [4]), (1000003, [1, 5, 11, 12, 13])]), (38, [(0, [1]), (1, [1, 3]), (2, [1, 3]), (3, [2])]), (39, [(0, [1]), (1, [2])]), (40, [(0, [0, 1]), (1, [0, 1, 5]), (2, [0, 1, 5, 6]), (3, [0, 1, 5, 6, 13]), (4, [0, 1, 5, 6]), (5, [0, 1, 5, 6, 28]), (6, [0, 1, 5, 6]), (7, [4]), (1000003, [0, 1, 5, 6])]), (41, [(0, [0, 1]), (1, [0, 1, 11]), (2, [4, 5]), (3, [4, 5])]), (42, [(0, [0, 1]), (1, [0, 1, 5]), (2, [0, 1, 5, 9]), (3, [0, 1, 5]), (4, [0, 1, 5, 17]), (5, [4]), (6, [4]), (1000002, [0, 1, 5])]), (43, [(0, [0]), (1, [0, 3]), (2, [0, 3, 4]), (3, [0, 3, 4, 17]), (4, [0, 3, 4]), (5, [0, 3, 4, 32]), (6, [0, 3, 4]), (7, [2]), (1000003, [0, 3, 4])]), (44, [(0, [0]), (1, [0, 3]), (2, [0, 3, 4]), (3, [0, 3, 4, 17]), (4, [0, 3, 4]), (5, [0, 3, 4, 32]), (6, [0, 3, 4]), (7, [2]), (1000003, [0, 3, 4])]), (45, [(0, [0, 4, 5, 9]), (1, [4, 5, 8, 9]), (2, [4, 5, 7]), (3, []), (4, [6])]), (46, [(0, [1]), (1, [2])]), (47, [(0, [0, 1]), (1, [4])]), (48, [(0, [1]), (1, [3, 4, 5, 6]), (2, [2])]), (49, [(0, [0, 1]), (1, [6, 7]), (2, [4, 5]), (3, [8, 9]), (4, [4, 5])]), (50, [(0, [0, 1]), (1, [0, 1, 7, 8]), (2, [0, 1, 7, 8, 9]), (3, [0, 1, 5, 7, 8]), (4, [0, 1, 5, 7, 8, 16]), (5, [4]), (6, [0, 1, 7, 8]), (7, [4]), (1000002, [0, 1, 7, 8])]), (51, [(0, [0, 1]), (1, [0, 1, 9]), (2, [0, 1]), (3, [0, 1, 5]), (4, [0, 1, 5, 6]), (5, [0, 1, 5, 6, 17]), (6, [0, 1, 5, 6]), (7, [0, 1, 5, 6, 27]), (8, [0, 1, 5, 6]), (9, [4]), (1000005, [0, 1, 5, 6])]), (52, [(0, [0, 1, 2]), (1, [5])]), (53, [(0, [0, 2, 3]), (1, [0, 2, 3, 9]), (2, [0, 2, 3]), (3, [0, 2, 3]), (1000001, [0, 2, 3])]), (54, [(0, [0, 1]), (1, [0, 1, 9]), (2, [0, 1]), (3, [0, 1, 5]), (4, [0, 1, 5, 6]), (5, [0, 1, 5, 6, 17]), (6, [0, 1, 5, 6]), (7, [0, 1, 5, 6, 27]), (8, [0, 1, 5, 6]), (9, [4]), (1000005, [0, 1, 5, 6])]), (55, [(0, [0, 1, 2]), (1, [5])]), (56, [(0, [0, 1, 3]), (1, [0, 1, 3, 8]), (2, [0, 1, 3]), (3, [0, 1, 3, 18]), (1000001, [0, 1, 3])]), (57, [(0, [0, 22, 23, 24]), (1, [0, 22, 23, 24, 25]), (2, [0, 4, 22, 23, 24]), (3, [0, 4, 5, 22, 23, 24]), (4, [0, 4, 5, 22, 23, 24, 32]), (5, [0, 4, 5, 22, 23, 24]), (6, [0, 4, 5, 22, 23, 24, 43]), (7, [0, 22, 23, 24]), (1000001, [0, 22, 23, 24]), (1000004, [0, 4, 5, 22, 23, 24])]), (58, [(0, [0, 1]), (1, [6]), (2, [4, 5])]), (59, [(0, [0, 1]), (1, [0, 1, 6]), (2, [0, 1, 6, 7]), (3, [0, 1, 6, 7, 8]), (4, [0, 1, 6, 7, 8, 9]), (5, [0, 1, 6, 7, 8, 9, 10]), (6, [0, 1, 6, 7, 9, 11]), (7, [0, 1, 6, 7, 9, 11, 12]), (8, [0, 1, 6, 7, 9, 12, 13]), (9, [0, 1, 7, 9, 12, 13]), (10, [0, 1, 4]), (11, [4, 5])])] [] [(7, [20]), (14, [1, 777777]), (32, [6, 3])]
/- 4 leafmesh/leafmeshlaw11.SpreadFair -/
theorem xLaw11SpreadFair (m : Mem) (n : Nat) (Q : Value → Mem → Nat → Prop) (buckets : Int) (l_a : Option Addr) (l_l : Nat) (l_c : Nat) :
 Xc Try.prog xcfg 400 fLaw11SpreadFair [Value.int IntKind.i64 buckets, Value.slice l_a l_l l_c] m n Q =
 (Wc Try.prog fLaw11SpreadKnown [] m n fun (v0 : Value) (m1 : Mem) (k2 : Nat) =>
 ∃ (b3 : Bool),
 v0 = Value.bool b3 ∧
 Later
 (Wc Try.prog fLaw11short [Value.slice l_a l_l l_c] m1 k2 fun (v4 : Value) (m5 : Mem) (k6 : Nat) =>
 ∃ (b7 : Bool),
 v4 = Value.bool b7 ∧
 Later
 (bif !b7 then Q (Value.bool b3) m5 k6
 else
 Wc Try.prog fLaw11wheel [Value.int IntKind.i64 buckets, Value.slice l_a l_l l_c] m5 k6 fun (v8 : Value) (m9 : Mem) (k10 : Nat) =>
 ∃ (p11 : Option Addr),
 v8 = Value.pointer p11 ∧
 Later (bif p11.isNone then Q (Value.bool false) m9 k10 else Wc Try.prog fSpreadWheelBuckets [Value.pointer p11] m9 k10 fun (v12 : Value) (m13 : Mem) (k14 : Nat) => ∃ (p15 : Option Addr), ∃ (k16 : Nat), ∃ (k17 : Nat), v12 = Value.slice p15 k16 k17 ∧ Later (Wc Try.prog fSpreadWheelMembers [Value.pointer p11] m13 k14 fun (v18 : Value) (m19 : Mem) (k20 : Nat) => ∃ (p21 : Option Addr), ∃ (k22 : Nat), ∃ (k23 : Nat), v18 = Value.slice p21 k22 k23 ∧ Later (bif (↑k22 : Int) == 0 then Q (Value.bool b3) m19 k20 else W Try.prog { fn := fLaw11SpreadFair, nt := 98, slots := [(5, Value.bool b3), (6, Value.pointer p11), (7, Value.slice p15 k16 k17), (8, Value.slice p21 k22 k23), (9, Value.int IntKind.i64 (↑k16 : Int)), (10, Value.int IntKind.i64 0), (11, Value.int IntKind.i64 0)], todo := pt Try.prog fLaw11SpreadFair [1, 1, 1, 1, 1, 1, 1, 1, 0, 1, 0, 0] } m19 k20 Q)))))) := by kernel_rfl

theorem xLaw11SpreadFairk0 (m : Mem) (n : Nat) (Q : Value → Mem → Nat → Prop) (ok : Bool) (w : Option Addr) (b_a : Option Addr) (b_l : Nat) (b_c : Nat) (m'_a : Option Addr) (m'_l : Nat) (m'_c : Nat) (low : Int) (high : Int) (i : Int) :
 xF (evX Try.prog xcfg 400) { fn := fLaw11SpreadFair, nt := 98, slots := [(5, Value.bool ok), (6, Value.pointer w), (7, Value.slice b_a b_l b_c), (8, Value.slice m'_a m'_l m'_c), (9, Value.int IntKind.i64 low), (10, Value.int IntKind.i64 high), (11, Value.int IntKind.i64 i)], todo := pt Try.prog fLaw11SpreadFair [1, 1, 1, 1, 1, 1, 1, 1, 0, 1, 0, 0] } m n Q =
 (bif decide (i < (↑m'_l : Int)) then W Try.prog { fn := fLaw11SpreadFair, nt := 98, slots := [(5, Value.bool ok), (6, Value.pointer w), (7, Value.slice b_a b_l b_c), (8, Value.slice m'_a m'_l m'_c), (9, Value.int IntKind.i64 low), (10, Value.int IntKind.i64 high), (11, Value.int IntKind.i64 i), (12, Value.int IntKind.i64 0), (13, Value.int IntKind.i64 0)], todo := pt Try.prog fLaw11SpreadFair [1, 1, 1, 1, 1, 1, 1, 1, 0, 1, 0, 0, 1, 0, 0, 1, 0, 1, 0, 0] } m n Q else W Try.prog { fn := fLaw11SpreadFair, nt := 98, slots := [(5, Value.bool ok), (6, Value.pointer w), (7, Value.slice b_a b_l b_c), (8, Value.slice m'_a m'_l m'_c), (9, Value.int IntKind.i64 low), (10, Value.int IntKind.i64 high), (14, Value.int IntKind.i64 0)], todo := pt Try.prog fLaw11SpreadFair [1, 1, 1, 1, 1, 1, 1, 1, 1, 0, 1, 0, 0] } m n Q) := by kernel_rfl

theorem xLaw11SpreadFairk1 (m : Mem) (n : Nat) (Q : Value → Mem → Nat → Prop) (ok : Bool) (w : Option Addr) (b_a : Option Addr) (b_l : Nat) (b_c : Nat) (m'_a : Option Addr) (m'_l : Nat) (m'_c : Nat) (low : Int) (high : Int) (i : Int) (n' : Int) (k : Int) :
 xF (evX Try.prog xcfg 400) { fn := fLaw11SpreadFair, nt := 98, slots := [(5, Value.bool ok), (6, Value.pointer w), (7, Value.slice b_a b_l b_c), (8, Value.slice m'_a m'_l m'_c), (9, Value.int IntKind.i64 low), (10, Value.int IntKind.i64 high), (11, Value.int IntKind.i64 i), (12, Value.int IntKind.i64 n'), (13, Value.int IntKind.i64 k)], todo := pt Try.prog fLaw11SpreadFair [1, 1, 1, 1, 1, 1, 1, 1, 0, 1, 0, 0, 1, 0, 0, 1, 0, 1, 0, 0] } m n Q =
 (bif decide (k < (↑b_l : Int)) then
 elimA b_a False fun (k0 k1 : Nat) (p2 : Option Nat) =>
 (0 ≤ k ∧ k < (↑b_l : Int) ∧ liveAt m k0 = true ∧ (p2 ≠ none → 0 < b_c)) ∧
 ∃ (x3 : Int),
 rd m k0 (offOf k1 p2 + k.toNat * 1) = some (Value.int IntKind.i64 x3) ∧
 elimA m'_a False fun (k4 k5 : Nat) (p6 : Option Nat) =>
 (0 ≤ i ∧ i < (↑m'_l : Int) ∧ liveAt m k4 = true ∧ (p6 ≠ none → 0 < m'_c)) ∧
 ∃ (x7 : Int),
 rd m k4 (offOf k5 p6 + i.toNat * 1) = some (Value.int IntKind.i64 x7) ∧
 bif x3 == x7 then W Try.prog { fn := fLaw11SpreadFair, nt := 98, slots := [(5, Value.bool ok), (6, Value.pointer w), (7, Value.slice b_a b_l b_c), (8, Value.slice m'_a m'_l m'_c), (9, Value.int IntKind.i64 low), (10, Value.int IntKind.i64 high), (11, Value.int IntKind.i64 i), (12, Value.int IntKind.i64 (IntKind.i64.wrap (n' + 1))), (13, Value.int IntKind.i64 (IntKind.i64.wrap (k + 1)))], todo := pt Try.prog fLaw11SpreadFair [1, 1, 1, 1, 1, 1, 1, 1, 0, 1, 0, 0, 1, 0, 0, 1, 0, 1, 0, 0] } m (n + 9) Q
 else W Try.prog { fn := fLaw11SpreadFair, nt := 98, slots := [(5, Value.bool ok), (6, Value.pointer w), (7, Value.slice b_a b_l b_c), (8, Value.slice m'_a m'_l m'_c), (9, Value.int IntKind.i64 low), (10, Value.int IntKind.i64 high), (11, Value.int IntKind.i64 i), (12, Value.int IntKind.i64 n'), (13, Value.int IntKind.i64 (IntKind.i64.wrap (k + 1)))], todo := pt Try.prog fLaw11SpreadFair [1, 1, 1, 1, 1, 1, 1, 1, 0, 1, 0, 0, 1, 0, 0, 1, 0, 1, 0, 0] } m (n + 9) Q
 else elimA m'_a False fun (k8 k9 : Nat) (p10 : Option Nat) => (0 ≤ i ∧ i < (↑m'_l : Int) ∧ liveAt m k8 = true ∧ (p10 ≠ none → 0 < m'_c)) ∧ ∃ (x11 : Int), rd m k8 (offOf k9 p10 + i.toNat * 1) = some (Value.int IntKind.i64 x11) ∧ Wc Try.prog fSpreadWheelLoad [Value.pointer w, Value.int IntKind.i64 x11] m n fun (v12 : Value) (m13 : Mem) (k14 : Nat) => ∃ (x15 : Int), v12 = Value.int IntKind.i64 x15 ∧ Later (bif x15 != n' then Q (Value.bool false) m13 k14 else W Try.prog { fn := fLaw11SpreadFair, nt := 98, slots := [(5, Value.bool ok), (6, Value.pointer w), (7, Value.slice b_a b_l b_c), (8, Value.slice m'_a m'_l m'_c), (9, Value.int IntKind.i64 (if n' < low then n' else low)), (10, Value.int IntKind.i64 (if n' > high then n' else high)), (11, Value.int IntKind.i64 (IntKind.i64.wrap (i + 1)))], todo := pt Try.prog fLaw11SpreadFair [1, 1, 1, 1, 1, 1, 1, 1, 0, 1, 0, 0] } m13 k14 Q)) := by kernel_rfl

theorem xLaw11SpreadFairk2 (m : Mem) (n : Nat) (Q : Value → Mem → Nat → Prop) (ok : Bool) (w : Option Addr) (b_a : Option Addr) (b_l : Nat) (b_c : Nat) (m'_a : Option Addr) (m'_l : Nat) (m'_c : Nat) (low : Int) (high : Int) (k_1 : Int) :
 xF (evX Try.prog xcfg 400) { fn := fLaw11SpreadFair, nt := 98, slots := [(5, Value.bool ok), (6, Value.pointer w), (7, Value.slice b_a b_l b_c), (8, Value.slice m'_a m'_l m'_c), (9, Value.int IntKind.i64 low), (10, Value.int IntKind.i64 high), (14, Value.int IntKind.i64 k_1)], todo := pt Try.prog fLaw11SpreadFair [1, 1, 1, 1, 1, 1, 1, 1, 1, 0, 1, 0, 0] } m n Q =
 (bif decide (k_1 < (↑b_l : Int)) then elimA b_a False fun (k0 k1 : Nat) (p2 : Option Nat) => (0 ≤ k_1 ∧ k_1 < (↑b_l : Int) ∧ liveAt m k0 = true ∧ (p2 ≠ none → 0 < b_c)) ∧ ∃ (x3 : Int), rd m k0 (offOf k1 p2 + k_1.toNat * 1) = some (Value.int IntKind.i64 x3) ∧ Wc Try.prog fKitHasint [Value.slice m'_a m'_l m'_c, Value.int IntKind.i64 x3] m n fun (v4 : Value) (m5 : Mem) (k6 : Nat) => ∃ (b7 : Bool), v4 = Value.bool b7 ∧ Later (bif !b7 then Q (Value.bool false) m5 k6 else W Try.prog { fn := fLaw11SpreadFair, nt := 98, slots := [(5, Value.bool ok), (6, Value.pointer w), (7, Value.slice b_a b_l b_c), (8, Value.slice m'_a m'_l m'_c), (9, Value.int IntKind.i64 low), (10, Value.int IntKind.i64 high), (14, Value.int IntKind.i64 (IntKind.i64.wrap (k_1 + 1)))], todo := pt Try.prog fLaw11SpreadFair [1, 1, 1, 1, 1, 1, 1, 1, 1, 0, 1, 0, 0] } m5 k6 Q)
 else bif ok then bif decide (IntKind.i64.wrap (high - low) ≤ 1) then Wc Try.prog fLaw11sets [Value.pointer w, Value.slice m'_a m'_l m'_c, Value.slice b_a b_l b_c] m n fun (v8 : Value) (m9 : Mem) (k10 : Nat) => ∃ (b11 : Bool), v8 = Value.bool b11 ∧ Later (Q (Value.bool b11) m9 k10) else Q (Value.bool false) m n else Q (Value.bool false) m n) := by kernel_rfl

/- 5 leafmesh/leafmeshlaw11.SpreadGone -/
theorem xLaw11SpreadGone (m : Mem) (n : Nat) (Q : Value → Mem → Nat → Prop) (buckets : Int) (l_a : Option Addr) (l_l : Nat) (l_c : Nat) (gone_a : Option Addr) (gone_l : Nat) (gone_c : Nat) :
 Xc Try.prog xcfg 400 fLaw11SpreadGone [Value.int IntKind.i64 buckets, Value.slice l_a l_l l_c, Value.slice gone_a gone_l gone_c] m n Q =
 (Wc Try.prog fLaw11SpreadKnown [] m n fun (v0 : Value) (m1 : Mem) (k2 : Nat) =>
 ∃ (b3 : Bool),
 v0 = Value.bool b3 ∧
 Later
 (Wc Try.prog fLaw11short [Value.slice l_a l_l l_c] m1 k2 fun (v4 : Value) (m5 : Mem) (k6 : Nat) =>
 ∃ (b7 : Bool),
 v4 = Value.bool b7 ∧
 Later
 (bif !b7 then Q (Value.bool b3) m5 k6
 else
 bif decide ((↑gone_l : Int) > 64) then Q (Value.bool b3) m5 k6
 else
 Wc Try.prog fLaw11wheel [Value.int IntKind.i64 buckets, Value.slice l_a l_l l_c] m5 k6 fun (v8 : Value) (m9 : Mem) (k10 : Nat) =>
 ∃ (p11 : Option Addr), v8 = Value.pointer p11 ∧ Later (bif p11.isNone then Q (Value.bool false) m9 k10 else Wc Try.prog fSpreadWheelBuckets [Value.pointer p11] m9 k10 fun (v12 : Value) (m13 : Mem) (k14 : Nat) => ∃ (p15 : Option Addr), ∃ (k16 : Nat), ∃ (k17 : Nat), v12 = Value.slice p15 k16 k17 ∧ Later (Wc Try.prog fSpreadWheelMembers [Value.pointer p11] m13 k14 fun (v18 : Value) (m19 : Mem) (k20 : Nat) => ∃ (p21 : Option Addr), ∃ (k22 : Nat), ∃ (k23 : Nat), v18 = Value.slice p21 k22 k23 ∧ Later (W Try.prog { fn := fLaw11SpreadGone, nt := 108, slots := [(2, Value.slice gone_a gone_l gone_c), (7, Value.bool b3), (8, Value.pointer p11), (9, Value.slice p15 k16 k17), (10, Value.slice p21 k22 k23), (11, Value.slice none 0 0), (12, Value.int IntKind.i64 0)], todo := pt Try.prog fLaw11SpreadGone [1, 1, 1, 1, 1, 1, 1, 0, 1, 0, 0] } m19 k20 Q)))))) := by kernel_rfl

theorem xLaw11SpreadGonek0 (m : Mem) (n : Nat) (Q : Value → Mem → Nat → Prop) (gone_a : Option Addr) (gone_l : Nat) (gone_c : Nat) (ok : Bool) (w : Option Addr) (was_a : Option Addr) (was_l : Nat) (was_c : Nat) (m'_a : Option Addr) (m'_l : Nat) (m'_c : Nat) (left_a : Option Addr) (left_l : Nat) (left_c : Nat) (i : Int) :
 xF (evX Try.prog xcfg 400) { fn := fLaw11SpreadGone, nt := 108, slots := [(2, Value.slice gone_a gone_l gone_c), (7, Value.bool ok), (8, Value.pointer w), (9, Value.slice was_a was_l was_c), (10, Value.slice m'_a m'_l m'_c), (11, Value.slice left_a left_l left_c), (12, Value.int IntKind.i64 i)], todo := pt Try.prog fLaw11SpreadGone [1, 1, 1, 1, 1, 1, 1, 0, 1, 0, 0] } m n Q =
 (bif decide (i < (↑m'_l : Int)) then W Try.prog { fn := fLaw11SpreadGone, nt := 108, slots := [(2, Value.slice gone_a gone_l gone_c), (7, Value.bool ok), (8, Value.pointer w), (9, Value.slice was_a was_l was_c), (10, Value.slice m'_a m'_l m'_c), (11, Value.slice left_a left_l left_c), (12, Value.int IntKind.i64 i), (13, Value.bool false), (14, Value.int IntKind.i64 0)], todo := pt Try.prog fLaw11SpreadGone [1, 1, 1, 1, 1, 1, 1, 0, 1, 0, 0, 1, 0, 0, 1, 0, 1, 0, 0] } m n Q
 else bif (↑left_l : Int) == 0 then Q (Value.bool ok) m n else Wc Try.prog fSpreadWheelSet [Value.pointer w, Value.slice left_a left_l left_c] m n fun (v0 : Value) (m1 : Mem) (k2 : Nat) => ∃ (x3 : Int), v0 = Value.int IntKind.i64 x3 ∧ Later (bif x3 != 0 then Q (Value.bool false) m1 k2 else Wc Try.prog fSpreadWheelBuckets [Value.pointer w] m1 k2 fun (v4 : Value) (m5 : Mem) (k6 : Nat) => ∃ (p7 : Option Addr), ∃ (k8 : Nat), ∃ (k9 : Nat), v4 = Value.slice p7 k8 k9 ∧ Later (bif (↑k8 : Int) != (↑was_l : Int) then Q (Value.bool false) m5 k6 else W Try.prog { fn := fLaw11SpreadGone, nt := 108, slots := [(7, Value.bool ok), (9, Value.slice was_a was_l was_c), (11, Value.slice left_a left_l left_c), (15, Value.slice p7 k8 k9), (16, Value.int IntKind.i64 0)], todo := pt Try.prog fLaw11SpreadGone [1, 1, 1, 1, 1, 1, 1, 1, 1, 1, 1, 1, 0, 1, 0, 0] } m5 k6 Q))) := by kernel_rfl

theorem xLaw11SpreadGonek1 (m : Mem) (n : Nat) (Q : Value → Mem → Nat → Prop) (gone_a : Option Addr) (gone_l : Nat) (gone_c : Nat) (ok : Bool) (w : Option Addr) (was_a : Option Addr) (was_l : Nat) (was_c : Nat) (m'_a : Option Addr) (m'_l : Nat) (m'_c : Nat) (left_a : Option Addr) (left_l : Nat) (left_c : Nat) (i : Int) (cut : Bool) (k : Int) :
 xF (evX Try.prog xcfg 400) { fn := fLaw11SpreadGone, nt := 108, slots := [(2, Value.slice gone_a gone_l gone_c), (7, Value.bool ok), (8, Value.pointer w), (9, Value.slice was_a was_l was_c), (10, Value.slice m'_a m'_l m'_c), (11, Value.slice left_a left_l left_c), (12, Value.int IntKind.i64 i), (13, Value.bool cut), (14, Value.int IntKind.i64 k)], todo := pt Try.prog fLaw11SpreadGone [1, 1, 1, 1, 1, 1, 1, 0, 1, 0, 0, 1, 0, 0, 1, 0, 1, 0, 0] } m n Q =
 (bif decide (k < (↑gone_l : Int)) then
 bif cut then W Try.prog { fn := fLaw11SpreadGone, nt := 108, slots := [(2, Value.slice gone_a gone_l gone_c), (7, Value.bool ok), (8, Value.pointer w), (9, Value.slice was_a was_l was_c), (10, Value.slice m'_a m'_l m'_c), (11, Value.slice left_a left_l left_c), (12, Value.int IntKind.i64 i), (13, Value.bool true), (14, Value.int IntKind.i64 (IntKind.i64.wrap (k + 1)))], todo := pt Try.prog fLaw11SpreadGone [1, 1, 1, 1, 1, 1, 1, 0, 1, 0, 0, 1, 0, 0, 1, 0, 1, 0, 0] } m n Q
 else elimA gone_a False fun (k0 k1 : Nat) (p2 : Option Nat) => (0 ≤ k ∧ k < (↑gone_l : Int) ∧ liveAt m k0 = true ∧ (p2 ≠ none → 0 < gone_c)) ∧ ∃ (x3 : Int), rd m k0 (offOf k1 p2 + k.toNat * 1) = some (Value.int IntKind.i64 x3) ∧ Wc Try.prog fKitPick [Value.int IntKind.i64 x3, Value.int IntKind.i64 (↑m'_l : Int)] m n fun (v4 : Value) (m5 : Mem) (k6 : Nat) => ∃ (x7 : Int), v4 = Value.int IntKind.i64 x7 ∧ Later (W Try.prog { fn := fLaw11SpreadGone, nt := 108, slots := [(2, Value.slice gone_a gone_l gone_c), (7, Value.bool ok), (8, Value.pointer w), (9, Value.slice was_a was_l was_c), (10, Value.slice m'_a m'_l m'_c), (11, Value.slice left_a left_l left_c), (12, Value.int IntKind.i64 i), (13, Value.bool (x7 == i)), (14, Value.int IntKind.i64 (IntKind.i64.wrap (k + 1)))], todo := pt Try.prog fLaw11SpreadGone [1, 1, 1, 1, 1, 1, 1, 0, 1, 0, 0, 1, 0, 0, 1, 0, 1, 0, 0] } m5 k6 Q)
 else
 bif !cut then
 elimA m'_a False fun (k8 k9 : Nat) (p10 : Option Nat) =>
 (0 ≤ i ∧ i < (↑m'_l : Int) ∧ liveAt m k8 = true ∧ (p10 ≠ none → 0 < m'_c)) ∧ ∃ (x11 : Int), rd m k8 (offOf k9 p10 + i.toNat * 1) = some (Value.int IntKind.i64 x11) ∧ memLet (Tr.set m n (AObj.cells none tInt 1 [Value.int IntKind.i64 x11])) fun (m12 : Mem) => ∃ (p13 : Option Addr), ∃ (k14 : Nat), ∃ (k15 : Nat), ∃ (m16 : Mem), ∃ (k17 : Nat), appendA Try.prog m12 (n + 1) tLint tLint (Value.slice left_a left_l left_c) (Value.slice (some { block := n, off := 0 }) 1 1) = Eff.val (Value.slice p13 k14 k15) m16 k17 ∧ W Try.prog { fn := fLaw11SpreadGone, nt := 108, slots := [(2, Value.slice gone_a gone_l gone_c), (7, Value.bool ok), (8, Value.pointer w), (9, Value.slice was_a was_l was_c), (10, Value.slice m'_a m'_l m'_c), (11, Value.slice p13 k14 k15), (12, Value.int IntKind.i64 (IntKind.i64.wrap (i + 1)))], todo := pt Try.prog fLaw11SpreadGone [1, 1, 1, 1, 1, 1, 1, 0, 1, 0, 0] } m16 k17 Q
 else W Try.prog { fn := fLaw11SpreadGone, nt := 108, slots := [(2, Value.slice gone_a gone_l gone_c), (7, Value.bool ok), (8, Value.pointer w), (9, Value.slice was_a was_l was_c), (10, Value.slice m'_a m'_l m'_c), (11, Value.slice left_a left_l left_c), (12, Value.int IntKind.i64 (IntKind.i64.wrap (i + 1)))], todo := pt Try.prog fLaw11SpreadGone [1, 1, 1, 1, 1, 1, 1, 0, 1, 0, 0] } m n Q) := by kernel_rfl

theorem xLaw11SpreadGonek2 (m : Mem) (n : Nat) (Q : Value → Mem → Nat → Prop) (ok : Bool) (was_a : Option Addr) (was_l : Nat) (was_c : Nat) (left_a : Option Addr) (left_l : Nat) (left_c : Nat) (now_a : Option Addr) (now_l : Nat) (now_c : Nat) (k_1 : Int) :
 xF (evX Try.prog xcfg 400) { fn := fLaw11SpreadGone, nt := 108, slots := [(7, Value.bool ok), (9, Value.slice was_a was_l was_c), (11, Value.slice left_a left_l left_c), (15, Value.slice now_a now_l now_c), (16, Value.int IntKind.i64 k_1)], todo := pt Try.prog fLaw11SpreadGone [1, 1, 1, 1, 1, 1, 1, 1, 1, 1, 1, 1, 0, 1, 0, 0] } m n Q =
 (bif decide (k_1 < (↑now_l : Int)) then
 elimA was_a False fun (k0 k1 : Nat) (p2 : Option Nat) =>
 (0 ≤ k_1 ∧ k_1 < (↑was_l : Int) ∧ liveAt m k0 = true ∧ (p2 ≠ none → 0 < was_c)) ∧
 ∃ (x3 : Int),
 rd m k0 (offOf k1 p2 + k_1.toNat * 1) = some (Value.int IntKind.i64 x3) ∧
 ∃ (b4 : Bool),
 ∃ (m5 : Mem),
 ∃ (k6 : Nat),
 (Wc Try.prog fKitHasint [Value.slice left_a left_l left_c, Value.int IntKind.i64 x3] m (n + 17) fun (v7 : Value) (m8 : Mem) (k9 : Nat) => v7 = Value.bool b4 ∧ m8 = m5 ∧ k9 = k6) ∧
 Later
 (bif b4 then
 elimA now_a False fun (k10 k11 : Nat) (p12 : Option Nat) =>
 (0 ≤ k_1 ∧ k_1 < (↑now_l : Int) ∧ liveAt m5 k10 = true ∧ (p12 ≠ none → 0 < now_c)) ∧ ∃ (x13 : Int), rd m5 k10 (offOf k11 p12 + k_1.toNat * 1) = some (Value.int IntKind.i64 x13) ∧ elimA was_a False fun (k14 k15 : Nat) (p16 : Option Nat) => (0 ≤ k_1 ∧ k_1 < (↑was_l : Int) ∧ liveAt m5 k14 = true ∧ (p16 ≠ none → 0 < was_c)) ∧ ∃ (x17 : Int), rd m5 k14 (offOf k15 p16 + k_1.toNat * 1) = some (Value.int IntKind.i64 x17) ∧ n + 17 ≤ k6 ∧ bif x13 != x17 then Q (Value.bool false) m5 k6 else W Try.prog { fn := fLaw11SpreadGone, nt := 108, slots := [(7, Value.bool ok), (9, Value.slice was_a was_l was_c), (11, Value.slice left_a left_l left_c), (15, Value.slice now_a now_l now_c), (16, Value.int IntKind.i64 (IntKind.i64.wrap (k_1 + 1)))], todo := pt Try.prog fLaw11SpreadGone [1, 1, 1, 1, 1, 1, 1, 1, 1, 1, 1, 1, 0, 1, 0, 0] } m5 k6 Q
 else n + 17 ≤ k6 ∧ W Try.prog { fn := fLaw11SpreadGone, nt := 108, slots := [(7, Value.bool ok), (9, Value.slice was_a was_l was_c), (11, Value.slice left_a left_l left_c), (15, Value.slice now_a now_l now_c), (16, Value.int IntKind.i64 (IntKind.i64.wrap (k_1 + 1)))], todo := pt Try.prog fLaw11SpreadGone [1, 1, 1, 1, 1, 1, 1, 1, 1, 1, 1, 1, 0, 1, 0, 0] } m5 k6 Q)
 else Q (Value.bool ok) m n) := by kernel_rfl

/- 6 leafmesh/leafmeshlaw11.SpreadComes -/
theorem xLaw11SpreadComes (m : Mem) (n : Nat) (Q : Value → Mem → Nat → Prop) (buckets : Int) (l_a : Option Addr) (l_l : Nat) (l_c : Nat) (more_a : Option Addr) (more_l : Nat) (more_c : Nat) :
 Xc Try.prog xcfg 400 fLaw11SpreadComes [Value.int IntKind.i64 buckets, Value.slice l_a l_l l_c, Value.slice more_a more_l more_c] m n Q =
 (Wc Try.prog fLaw11SpreadKnown [] m n fun (v0 : Value) (m1 : Mem) (k2 : Nat) =>
 ∃ (b3 : Bool),
 v0 = Value.bool b3 ∧
 Later
 (Wc Try.prog fLaw11short [Value.slice l_a l_l l_c] m1 k2 fun (v4 : Value) (m5 : Mem) (k6 : Nat) =>
 ∃ (b7 : Bool),
 v4 = Value.bool b7 ∧
 Later
 (bif !b7 then Q (Value.bool b3) m5 k6
 else
 bif decide ((↑more_l : Int) > 64) then Q (Value.bool b3) m5 k6
 else
 Wc Try.prog fLaw11wheel [Value.int IntKind.i64 buckets, Value.slice l_a l_l l_c] m5 k6 fun (v8 : Value) (m9 : Mem) (k10 : Nat) =>
 ∃ (p11 : Option Addr),
 v8 = Value.pointer p11 ∧
 Later
 (bif p11.isNone then Q (Value.bool false) m9 k10
 else
 Wc Try.prog fSpreadWheelBuckets [Value.pointer p11] m9 k10 fun (v12 : Value) (m13 : Mem) (k14 : Nat) =>
 ∃ (p15 : Option Addr),
 ∃ (k16 : Nat),
 ∃ (k17 : Nat),
 v12 = Value.slice p15 k16 k17 ∧
 Later
 (Wc Try.prog fSpreadWheelMembers [Value.pointer p11] m13 k14 fun (v18 : Value) (m19 : Mem) (k20 : Nat) =>
 ∃ (p21 : Option Addr),
 ∃ (k22 : Nat),
 ∃ (k23 : Nat),
 v18 = Value.slice p21 k22 k23 ∧
 Later
 (Wc Try.prog fKitOwnint [Value.slice p21 k22 k23] m19 k20 fun (v24 : Value) (m25 : Mem) (k26 : Nat) =>
 ∃ (p27 : Option Addr),
 ∃ (k28 : Nat),
 ∃ (k29 : Nat),
 v24 = Value.slice p27 k28 k29 ∧
 Later
 (∃ (p30 : Option Addr),
 ∃ (k31 : Nat),
 ∃ (k32 : Nat),
 ∃ (m33 : Mem),
 ∃ (k34 : Nat),
 appendA Try.prog m25 k26 tLint tLint (Value.slice p27 k28 k29) (Value.slice more_a more_l more_c) = Eff.val (Value.slice p30 k31 k32) m33 k34 ∧
 Wc Try.prog fLaw11members [Value.slice p30 k31 k32, Value.int IntKind.i64 128] m33 k34 fun (v35 : Value) (m36 : Mem) (k37 : Nat) =>
 ∃ (p38 : Option Addr),
 ∃ (k39 : Nat),
 ∃ (k40 : Nat),
 v35 = Value.slice p38 k39 k40 ∧
 Later
 (bif (↑k22 : Int) == 0 then Q (Value.bool b3) m36 k37
 else
 bif decide ((↑k39 : Int) > (↑k16 : Int)) then Q (Value.bool b3) m36 k37
 else
 Wc Try.prog fSpreadWheelSet [Value.pointer p11, Value.slice p38 k39 k40] m36 k37 fun (v41 : Value) (m42 : Mem) (k43 : Nat) =>
 ∃ (x44 : Int), v41 = Value.int IntKind.i64 x44 ∧ Later (bif x44 != 0 then Q (Value.bool false) m42 k43 else Wc Try.prog fSpreadWheelBuckets [Value.pointer p11] m42 k43 fun (v45 : Value) (m46 : Mem) (k47 : Nat) => ∃ (p48 : Option Addr), ∃ (k49 : Nat), ∃ (k50 : Nat), v45 = Value.slice p48 k49 k50 ∧ Later (bif (↑k49 : Int) != (↑k16 : Int) then Q (Value.bool false) m46 k47 else W Try.prog { fn := fLaw11SpreadComes, nt := 120, slots := [(7, Value.bool b3), (8, Value.pointer p11), (9, Value.slice p15 k16 k17), (10, Value.slice p21 k22 k23), (11, Value.slice p38 k39 k40), (12, Value.slice p48 k49 k50), (13, Value.int IntKind.i64 0)], todo := pt Try.prog fLaw11SpreadComes [1, 1, 1, 1, 1, 1, 1, 1, 1, 1, 1, 0, 1, 0, 0] } m46 k47 Q)))))))))) := by kernel_rfl

theorem xLaw11SpreadComesk0 (m : Mem) (n : Nat) (Q : Value → Mem → Nat → Prop) (ok : Bool) (w : Option Addr) (was_a : Option Addr) (was_l : Nat) (was_c : Nat) (m'_a : Option Addr) (m'_l : Nat) (m'_c : Nat) (all_a : Option Addr) (all_l : Nat) (all_c : Nat) (now_a : Option Addr) (now_l : Nat) (now_c : Nat) (k : Int) :
 xF (evX Try.prog xcfg 400) { fn := fLaw11SpreadComes, nt := 120, slots := [(7, Value.bool ok), (8, Value.pointer w), (9, Value.slice was_a was_l was_c), (10, Value.slice m'_a m'_l m'_c), (11, Value.slice all_a all_l all_c), (12, Value.slice now_a now_l now_c), (13, Value.int IntKind.i64 k)], todo := pt Try.prog fLaw11SpreadComes [1, 1, 1, 1, 1, 1, 1, 1, 1, 1, 1, 0, 1, 0, 0] } m n Q =
 (bif decide (k < (↑now_l : Int)) then
 elimA now_a False fun (k0 k1 : Nat) (p2 : Option Nat) =>
 (0 ≤ k ∧ k < (↑now_l : Int) ∧ liveAt m k0 = true ∧ (p2 ≠ none → 0 < now_c)) ∧
 ∃ (x3 : Int),
 rd m k0 (offOf k1 p2 + k.toNat * 1) = some (Value.int IntKind.i64 x3) ∧
 elimA was_a False fun (k4 k5 : Nat) (p6 : Option Nat) =>
 (0 ≤ k ∧ k < (↑was_l : Int) ∧ liveAt m k4 = true ∧ (p6 ≠ none → 0 < was_c)) ∧
 ∃ (x7 : Int),
 rd m k4 (offOf k5 p6 + k.toNat * 1) = some (Value.int IntKind.i64 x7) ∧
 bif x3 != x7 then
 elimA now_a False fun (k8 k9 : Nat) (p10 : Option Nat) =>
 (0 ≤ k ∧ k < (↑now_l : Int) ∧ liveAt m k8 = true ∧ (p10 ≠ none → 0 < now_c)) ∧ ∃ (x11 : Int), rd m k8 (offOf k9 p10 + k.toNat * 1) = some (Value.int IntKind.i64 x11) ∧ ∃ (b12 : Bool), ∃ (m13 : Mem), ∃ (k14 : Nat), (Wc Try.prog fKitHasint [Value.slice m'_a m'_l m'_c, Value.int IntKind.i64 x11] m (n + 17) fun (v15 : Value) (m16 : Mem) (k17 : Nat) => v15 = Value.bool b12 ∧ m16 = m13 ∧ k17 = k14) ∧ Later (n + 17 ≤ k14 ∧ bif b12 then Q (Value.bool false) m13 k14 else W Try.prog { fn := fLaw11SpreadComes, nt := 120, slots := [(7, Value.bool ok), (8, Value.pointer w), (9, Value.slice was_a was_l was_c), (10, Value.slice m'_a m'_l m'_c), (11, Value.slice all_a all_l all_c), (12, Value.slice now_a now_l now_c), (13, Value.int IntKind.i64 (IntKind.i64.wrap (k + 1)))], todo := pt Try.prog fLaw11SpreadComes [1, 1, 1, 1, 1, 1, 1, 1, 1, 1, 1, 0, 1, 0, 0] } m13 k14 Q)
 else W Try.prog { fn := fLaw11SpreadComes, nt := 120, slots := [(7, Value.bool ok), (8, Value.pointer w), (9, Value.slice was_a was_l was_c), (10, Value.slice m'_a m'_l m'_c), (11, Value.slice all_a all_l all_c), (12, Value.slice now_a now_l now_c), (13, Value.int IntKind.i64 (IntKind.i64.wrap (k + 1)))], todo := pt Try.prog fLaw11SpreadComes [1, 1, 1, 1, 1, 1, 1, 1, 1, 1, 1, 0, 1, 0, 0] } m (n + 17) Q
 else W Try.prog { fn := fLaw11SpreadComes, nt := 120, slots := [(7, Value.bool ok), (8, Value.pointer w), (10, Value.slice m'_a m'_l m'_c), (11, Value.slice all_a all_l all_c), (14, Value.int IntKind.i64 0)], todo := pt Try.prog fLaw11SpreadComes [1, 1, 1, 1, 1, 1, 1, 1, 1, 1, 1, 1, 0, 1, 0, 0] } m n Q) := by kernel_rfl

theorem xLaw11SpreadComesk1 (m : Mem) (n : Nat) (Q : Value → Mem → Nat → Prop) (ok : Bool) (w : Option Addr) (m'_a : Option Addr) (m'_l : Nat) (m'_c : Nat) (all_a : Option Addr) (all_l : Nat) (all_c : Nat) (i : Int) :
 xF (evX Try.prog xcfg 400) { fn := fLaw11SpreadComes, nt := 120, slots := [(7, Value.bool ok), (8, Value.pointer w), (10, Value.slice m'_a m'_l m'_c), (11, Value.slice all_a all_l all_c), (14, Value.int IntKind.i64 i)], todo := pt Try.prog fLaw11SpreadComes [1, 1, 1, 1, 1, 1, 1, 1, 1, 1, 1, 1, 0, 1, 0, 0] } m n Q =
 (bif decide (i < (↑all_l : Int)) then W Try.prog { fn := fLaw11SpreadComes, nt := 120, slots := [(7, Value.bool ok), (8, Value.pointer w), (10, Value.slice m'_a m'_l m'_c), (11, Value.slice all_a all_l all_c), (14, Value.int IntKind.i64 i), (15, Value.int IntKind.i64 0)], todo := pt Try.prog fLaw11SpreadComes [1, 1, 1, 1, 1, 1, 1, 1, 1, 1, 1, 1, 0, 1, 0, 0, 1, 0, 0, 1, 0, 0] } m n Q else Q (Value.bool ok) m n) := by kernel_rfl

theorem xLaw11SpreadComesk2 (m : Mem) (n : Nat) (Q : Value → Mem → Nat → Prop) (ok : Bool) (w : Option Addr) (m'_a : Option Addr) (m'_l : Nat) (m'_c : Nat) (all_a : Option Addr) (all_l : Nat) (all_c : Nat) (i : Int) (k_1 : Int) :
 xF (evX Try.prog xcfg 400) { fn := fLaw11SpreadComes, nt := 120, slots := [(7, Value.bool ok), (8, Value.pointer w), (10, Value.slice m'_a m'_l m'_c), (11, Value.slice all_a all_l all_c), (14, Value.int IntKind.i64 i), (15, Value.int IntKind.i64 k_1)], todo := pt Try.prog fLaw11SpreadComes [1, 1, 1, 1, 1, 1, 1, 1, 1, 1, 1, 1, 0, 1, 0, 0, 1, 0, 0, 1, 0, 0] } m n Q =
 (bif decide (k_1 < (↑m'_l : Int)) then
 elimA all_a False fun (k0 k1 : Nat) (p2 : Option Nat) =>
 (0 ≤ i ∧ i < (↑all_l : Int) ∧ liveAt m k0 = true ∧ (p2 ≠ none → 0 < all_c)) ∧
 ∃ (x3 : Int),
 rd m k0 (offOf k1 p2 + i.toNat * 1) = some (Value.int IntKind.i64 x3) ∧
 ∃ (b4 : Bool),
 ∃ (m5 : Mem),
 ∃ (k6 : Nat),
 (Wc Try.prog fKitHasint [Value.slice m'_a m'_l m'_c, Value.int IntKind.i64 x3] m (n + 22) fun (v7 : Value) (m8 : Mem) (k9 : Nat) => v7 = Value.bool b4 ∧ m8 = m5 ∧ k9 = k6) ∧
 Later
 (bif !b4 then
 elimA all_a False fun (k10 k11 : Nat) (p12 : Option Nat) =>
 (0 ≤ i ∧ i < (↑all_l : Int) ∧ liveAt m5 k10 = true ∧ (p12 ≠ none → 0 < all_c)) ∧
 ∃ (x13 : Int),
 rd m5 k10 (offOf k11 p12 + i.toNat * 1) = some (Value.int IntKind.i64 x13) ∧
 ∃ (x14 : Int),
 ∃ (m15 : Mem),
 ∃ (k16 : Nat),
 (Wc Try.prog fSpreadWheelLoad [Value.pointer w, Value.int IntKind.i64 x13] m5 k6 fun (v17 : Value) (m18 : Mem) (k19 : Nat) => v17 = Value.int IntKind.i64 x14 ∧ m18 = m15 ∧ k19 = k16) ∧
 Later
 (elimA m'_a False fun (k20 k21 : Nat) (p22 : Option Nat) =>
 (0 ≤ k_1 ∧ k_1 < (↑m'_l : Int) ∧ liveAt m15 k20 = true ∧ (p22 ≠ none → 0 < m'_c)) ∧
 ∃ (x23 : Int),
 rd m15 k20 (offOf k21 p22 + k_1.toNat * 1) = some (Value.int IntKind.i64 x23) ∧
 ∃ (x24 : Int),
 ∃ (m25 : Mem),
 ∃ (k26 : Nat),
 (Wc Try.prog fSpreadWheelLoad [Value.pointer w, Value.int IntKind.i64 x23] m15 k16 fun (v27 : Value) (m28 : Mem) (k29 : Nat) => v27 = Value.int IntKind.i64 x24 ∧ m28 = m25 ∧ k29 = k26) ∧
 Later
 ((∃ (x30 : Int), rd m5 k20 (offOf k21 p22 + k_1.toNat * 1) = some (Value.int IntKind.i64 x30) ∧ Value.int IntKind.i64 x30 = Value.int IntKind.i64 x23) ∧
 (elimA m'_a False fun (k31 k32 : Nat) (p33 : Option Nat) => (0 ≤ k_1 ∧ k_1 < (↑m'_l : Int) ∧ liveAt m5 k31 = true ∧ (p33 ≠ none → 0 < m'_c)) ∧ Value.pointer (some { block := k31, off := offOf k32 p33 + k_1.toNat * 1 }) = Value.pointer (some { block := k20, off := offOf k21 p22 + k_1.toNat * 1 })) ∧ n + 22 ≤ k6 ∧ n + 22 ≤ k16 ∧ n + 22 ≤ k26 ∧ bif decide (x14 > x24) then Q (Value.bool false) m25 k26 else W Try.prog { fn := fLaw11SpreadComes, nt := 120, slots := [(7, Value.bool ok), (8, Value.pointer w), (10, Value.slice m'_a m'_l m'_c), (11, Value.slice all_a all_l all_c), (14, Value.int IntKind.i64 i), (15, Value.int IntKind.i64 (IntKind.i64.wrap (k_1 + 1)))], todo := pt Try.prog fLaw11SpreadComes [1, 1, 1, 1, 1, 1, 1, 1, 1, 1, 1, 1, 0, 1, 0, 0, 1, 0, 0, 1, 0, 0] } m25 k26 Q))
 else n + 22 ≤ k6 ∧ W Try.prog { fn := fLaw11SpreadComes, nt := 120, slots := [(7, Value.bool ok), (8, Value.pointer w), (10, Value.slice m'_a m'_l m'_c), (11, Value.slice all_a all_l all_c), (14, Value.int IntKind.i64 i), (15, Value.int IntKind.i64 (IntKind.i64.wrap (k_1 + 1)))], todo := pt Try.prog fLaw11SpreadComes [1, 1, 1, 1, 1, 1, 1, 1, 1, 1, 1, 1, 0, 1, 0, 0, 1, 0, 0, 1, 0, 0] } m5 k6 Q)
 else W Try.prog { fn := fLaw11SpreadComes, nt := 120, slots := [(7, Value.bool ok), (8, Value.pointer w), (10, Value.slice m'_a m'_l m'_c), (11, Value.slice all_a all_l all_c), (14, Value.int IntKind.i64 (IntKind.i64.wrap (i + 1)))], todo := pt Try.prog fLaw11SpreadComes [1, 1, 1, 1, 1, 1, 1, 1, 1, 1, 1, 1, 0, 1, 0, 0] } m n Q) := by kernel_rfl

/- 7 leafmesh/leafmeshlaw11.SpreadSets -/
theorem xLaw11SpreadSets (m : Mem) (n : Nat) (Q : Value → Mem → Nat → Prop) (buckets : Int) (l_a : Option Addr) (l_l : Nat) (l_c : Nat) (hash : Int) :
 Xc Try.prog xcfg 400 fLaw11SpreadSets [Value.int IntKind.i64 buckets, Value.slice l_a l_l l_c, Value.int IntKind.u64 hash] m n Q =
 (bif decide ((↑l_l : Int) > 12) then Wc Try.prog fLaw11awake [] m n fun (v0 : Value) (m1 : Mem) (k2 : Nat) => ∃ (b3 : Bool), v0 = Value.bool b3 ∧ Later (Q (Value.bool b3) m1 k2)
 else
 Wc Try.prog fSpreadNew [Value.int IntKind.i64 buckets] m n fun (v4 : Value) (m5 : Mem) (k6 : Nat) =>
 ∃ (p7 : Option Addr),
 ∃ (x8 : Int),
 v4 = Value.tuple { toList := [Value.pointer p7, Value.int IntKind.i64 x8] } ∧
 Later
 (Wc Try.prog fRef11New [Value.int IntKind.i64 buckets] m5 k6 fun (v9 : Value) (m10 : Mem) (k11 : Nat) =>
 ∃ (p12 : Option Addr),
 ∃ (x13 : Int),
 v9 = Value.tuple { toList := [Value.pointer p12, Value.int IntKind.i64 x13] } ∧
 Later (bif x8 != x13 then Q (Value.bool false) m10 k11 else bif !p7.isNone == p12.isNone then Q (Value.bool false) m10 k11 else bif p12.isNone then Wc Try.prog fLaw11awake [] m10 k11 fun (v14 : Value) (m15 : Mem) (k16 : Nat) => ∃ (b17 : Bool), v14 = Value.bool b17 ∧ Later (Q (Value.bool b17) m15 k16) else Wc Try.prog fLaw11same [Value.pointer p7, Value.pointer p12, Value.int IntKind.u64 hash] m10 k11 fun (v18 : Value) (m19 : Mem) (k20 : Nat) => ∃ (b21 : Bool), v18 = Value.bool b21 ∧ Later (bif !b21 then Q (Value.bool false) m19 k20 else W Try.prog { fn := fLaw11SpreadSets, nt := 116, slots := [(1, Value.slice l_a l_l l_c), (2, Value.int IntKind.u64 hash), (7, Value.pointer p7), (9, Value.pointer p12), (11, Value.int IntKind.i64 0)], todo := pt Try.prog fLaw11SpreadSets [1, 1, 1, 1, 1, 1, 1, 0, 1, 0, 0] } m19 k20 Q)))) := by kernel_rfl

theorem xLaw11SpreadSetsk0 (m : Mem) (n : Nat) (Q : Value → Mem → Nat → Prop) (l_a : Option Addr) (l_l : Nat) (l_c : Nat) (hash : Int) (w : Option Addr) (o : Option Addr) (i : Int) :
 xF (evX Try.prog xcfg 400) { fn := fLaw11SpreadSets, nt := 116, slots := [(1, Value.slice l_a l_l l_c), (2, Value.int IntKind.u64 hash), (7, Value.pointer w), (9, Value.pointer o), (11, Value.int IntKind.i64 i)], todo := pt Try.prog fLaw11SpreadSets [1, 1, 1, 1, 1, 1, 1, 0, 1, 0, 0] } m n Q =
 (bif decide (i < (↑l_l : Int)) then
 elimA l_a False fun (k0 k1 : Nat) (p2 : Option Nat) =>
 (0 ≤ i ∧ i < (↑l_l : Int) ∧ liveAt m k0 = true ∧ (p2 ≠ none → 0 < l_c)) ∧
 ∃ (p3 : Option Addr),
 ∃ (k4 : Nat),
 ∃ (k5 : Nat),
 rd m k0 (offOf k1 p2 + i.toNat * 1) = some (Value.slice p3 k4 k5) ∧
 bif decide ((↑k4 : Int) > 140) then Wc Try.prog fLaw11awake [] m n fun (v6 : Value) (m7 : Mem) (k8 : Nat) => ∃ (b9 : Bool), v6 = Value.bool b9 ∧ Later (Q (Value.bool b9) m7 k8)
 else
 (3 : Int) ≠ 0 ∧
 bif i.tmod 3 == 2 then Wc Try.prog fSpreadWheelCopy [Value.pointer w] m n fun (v10 : Value) (m11 : Mem) (k12 : Nat) => ∃ (p13 : Option Addr), v10 = Value.pointer p13 ∧ Later (Wc Try.prog fRef11WheelCopy [Value.pointer o] m11 k12 fun (v14 : Value) (m15 : Mem) (k16 : Nat) => ∃ (p17 : Option Addr), v14 = Value.pointer p17 ∧ Later (Wc Try.prog fSpreadWheelSet [Value.pointer w, Value.slice none 0 0] m15 k16 fun (v18 : Value) (m19 : Mem) (k20 : Nat) => ∃ (x21 : Int), v18 = Value.int IntKind.i64 x21 ∧ Later (W Try.prog { fn := fLaw11SpreadSets, nt := 116, slots := [(1, Value.slice l_a l_l l_c), (2, Value.int IntKind.u64 hash), (7, Value.pointer p13), (9, Value.pointer p17), (11, Value.int IntKind.i64 i)], todo := pt Try.prog fLaw11SpreadSets [1, 1, 1, 1, 1, 1, 1, 0, 1, 0, 0, 1, 0, 0, 1, 1, 0] } m19 k20 Q)))
 else W Try.prog { fn := fLaw11SpreadSets, nt := 116, slots := [(1, Value.slice l_a l_l l_c), (2, Value.int IntKind.u64 hash), (7, Value.pointer w), (9, Value.pointer o), (11, Value.int IntKind.i64 i)], todo := pt Try.prog fLaw11SpreadSets [1, 1, 1, 1, 1, 1, 1, 0, 1, 0, 0, 1, 0, 0, 1, 1, 0] } m n Q
 else Wc Try.prog fLaw11awake [] m n fun (v22 : Value) (m23 : Mem) (k24 : Nat) => ∃ (b25 : Bool), v22 = Value.bool b25 ∧ Later (Q (Value.bool b25) m23 k24)) := by kernel_rfl

theorem xLaw11SpreadSetsk1 (m : Mem) (n : Nat) (Q : Value → Mem → Nat → Prop) (l_a : Option Addr) (l_l : Nat) (l_c : Nat) (hash : Int) (w_1 : Option Addr) (o_1 : Option Addr) (i_1 : Int) :
 xF (ev1 Try.prog xcfg 400) { fn := fLaw11SpreadSets, nt := 116, slots := [(1, Value.slice l_a l_l l_c), (2, Value.int IntKind.u64 hash), (7, Value.pointer w_1), (9, Value.pointer o_1), (11, Value.int IntKind.i64 i_1)], todo := pt Try.prog fLaw11SpreadSets [1, 1, 1, 1, 1, 1, 1, 0, 1, 0, 0, 1, 0, 0, 1, 1, 0] } m n Q =
 (elimA l_a False fun (k0 k1 : Nat) (p2 : Option Nat) =>
 (0 ≤ i_1 ∧ i_1 < (↑l_l : Int) ∧ liveAt m k0 = true ∧ (p2 ≠ none → 0 < l_c)) ∧
 ∃ (p3 : Option Addr),
 ∃ (k4 : Nat),
 ∃ (k5 : Nat),
 rd m k0 (offOf k1 p2 + i_1.toNat * 1) = some (Value.slice p3 k4 k5) ∧
 Wc Try.prog fKitOwnint [Value.slice p3 k4 k5] m n fun (v6 : Value) (m7 : Mem) (k8 : Nat) =>
 ∃ (p9 : Option Addr),
 ∃ (k10 : Nat),
 ∃ (k11 : Nat),
 v6 = Value.slice p9 k10 k11 ∧
 Later
 (∃ (x12 : Int),
 ∃ (m13 : Mem),
 ∃ (k14 : Nat),
 (Wc Try.prog fSpreadWheelSet [Value.pointer w_1, Value.slice p9 k10 k11] m7 (k8 + 11) fun (v15 : Value) (m16 : Mem) (k17 : Nat) => v15 = Value.int IntKind.i64 x12 ∧ m16 = m13 ∧ k17 = k14) ∧
 Later
 (elimA l_a False fun (k18 k19 : Nat) (p20 : Option Nat) =>
 (0 ≤ i_1 ∧ i_1 < (↑l_l : Int) ∧ liveAt m13 k18 = true ∧ (p20 ≠ none → 0 < l_c)) ∧
 ∃ (p21 : Option Addr),
 ∃ (k22 : Nat),
 ∃ (k23 : Nat),
 rd m13 k18 (offOf k19 p20 + i_1.toNat * 1) = some (Value.slice p21 k22 k23) ∧
 ∃ (x24 : Int),
 ∃ (m25 : Mem),
 ∃ (k26 : Nat),
 (Wc Try.prog fRef11WheelSet [Value.pointer o_1, Value.slice p21 k22 k23] m13 k14 fun (v27 : Value) (m28 : Mem) (k29 : Nat) => v27 = Value.int IntKind.i64 x24 ∧ m28 = m25 ∧ k29 = k26) ∧
 Later
 ((∃ (p30 : Option Addr), ∃ (k31 : Nat), ∃ (k32 : Nat), rd m7 k18 (offOf k19 p20 + i_1.toNat * 1) = some (Value.slice p30 k31 k32) ∧ Value.slice p30 k31 k32 = Value.slice p21 k22 k23) ∧
 (elimA l_a False fun (k33 k34 : Nat) (p35 : Option Nat) => (0 ≤ i_1 ∧ i_1 < (↑l_l : Int) ∧ liveAt m7 k33 = true ∧ (p35 ≠ none → 0 < l_c)) ∧ Value.pointer (some { block := k33, off := offOf k34 p35 + i_1.toNat * 1 }) = Value.pointer (some { block := k18, off := offOf k19 p20 + i_1.toNat * 1 })) ∧
 k8 + 11 ≤ k14 ∧
 k8 + 11 ≤ k26 ∧
 bif x12 != x24 then Q (Value.bool false) m25 k26
 else
 elimA l_a False fun (k36 k37 : Nat) (p38 : Option Nat) =>
 (0 ≤ i_1 ∧ i_1 < (↑l_l : Int) ∧ liveAt m25 k36 = true ∧ (p38 ≠ none → 0 < l_c)) ∧ ∃ (p39 : Option Addr), ∃ (k40 : Nat), ∃ (k41 : Nat), rd m25 k36 (offOf k37 p38 + i_1.toNat * 1) = some (Value.slice p39 k40 k41) ∧ Wc Try.prog fKitSameint [Value.slice p9 k10 k11, Value.slice p39 k40 k41] m25 k26 fun (v42 : Value) (m43 : Mem) (k44 : Nat) => ∃ (b45 : Bool), v42 = Value.bool b45 ∧ Later (bif !b45 then Q (Value.bool false) m43 k44 else W Try.prog { fn := fLaw11SpreadSets, nt := 116, slots := [(1, Value.slice l_a l_l l_c), (2, Value.int IntKind.u64 hash), (7, Value.pointer w_1), (9, Value.pointer o_1), (11, Value.int IntKind.i64 i_1), (13, Value.slice p9 k10 k11), (16, Value.int IntKind.i64 0)], todo := pt Try.prog fLaw11SpreadSets [1, 1, 1, 1, 1, 1, 1, 0, 1, 0, 0, 1, 0, 0, 1, 1, 1, 1, 1, 0, 1, 0, 0] } m43 k44 Q))))) := by kernel_rfl

theorem xLaw11SpreadSetsk2 (m : Mem) (n : Nat) (Q : Value → Mem → Nat → Prop) (l_a : Option Addr) (l_l : Nat) (l_c : Nat) (hash : Int) (w_1 : Option Addr) (o_1 : Option Addr) (i_1 : Int) (in'_a : Option Addr) (in'_l : Nat) (in'_c : Nat) (k : Int) :
 xF (evX Try.prog xcfg 400) { fn := fLaw11SpreadSets, nt := 116, slots := [(1, Value.slice l_a l_l l_c), (2, Value.int IntKind.u64 hash), (7, Value.pointer w_1), (9, Value.pointer o_1), (11, Value.int IntKind.i64 i_1), (13, Value.slice in'_a in'_l in'_c), (16, Value.int IntKind.i64 k)], todo := pt Try.prog fLaw11SpreadSets [1, 1, 1, 1, 1, 1, 1, 0, 1, 0, 0, 1, 0, 0, 1, 1, 1, 1, 1, 0, 1, 0, 0] } m n Q =
 (bif decide (k < (↑in'_l : Int)) then elimA in'_a False fun (k0 k1 : Nat) (p2 : Option Nat) => (0 ≤ k ∧ k < (↑in'_l : Int) ∧ liveAt m k0 = true ∧ (p2 ≠ none → 0 < in'_c)) ∧ ∃ (m3 : Mem), storeCs m k0 (offOf k1 p2 + k.toNat * 1) [Value.int IntKind.i64 (-9)] = some m3 ∧ W Try.prog { fn := fLaw11SpreadSets, nt := 116, slots := [(1, Value.slice l_a l_l l_c), (2, Value.int IntKind.u64 hash), (7, Value.pointer w_1), (9, Value.pointer o_1), (11, Value.int IntKind.i64 i_1), (13, Value.slice in'_a in'_l in'_c), (16, Value.int IntKind.i64 (IntKind.i64.wrap (k + 1)))], todo := pt Try.prog fLaw11SpreadSets [1, 1, 1, 1, 1, 1, 1, 0, 1, 0, 0, 1, 0, 0, 1, 1, 1, 1, 1, 0, 1, 0, 0] } m3 n Q
 else Wc Try.prog fLaw11same [Value.pointer w_1, Value.pointer o_1, Value.int IntKind.u64 (IntKind.u64.wrap (hash + IntKind.u64.wrap i_1))] m n fun (v4 : Value) (m5 : Mem) (k6 : Nat) => ∃ (b7 : Bool), v4 = Value.bool b7 ∧ Later (bif !b7 then Q (Value.bool false) m5 k6 else W Try.prog { fn := fLaw11SpreadSets, nt := 116, slots := [(1, Value.slice l_a l_l l_c), (2, Value.int IntKind.u64 hash), (7, Value.pointer w_1), (9, Value.pointer o_1), (11, Value.int IntKind.i64 (IntKind.i64.wrap (i_1 + 1)))], todo := pt Try.prog fLaw11SpreadSets [1, 1, 1, 1, 1, 1, 1, 0, 1, 0, 0] } m5 k6 Q)) := by kernel_rfl

/- 9 leafmesh/leafmeshlaw11.SpreadHash -/
theorem xLaw11SpreadHash (m : Mem) (n : Nat) (Q : Value → Mem → Nat → Prop) (p0 : Int) (p1 : Int) (p2 : Int) (p3 : Int) (p4 : Int) (p5 : Int) (p6 : Int) (p7 : Int) (p8 : Int) (p9 : Int) (p10 : Int) (p11 : Int) (p12 : Int) (p13 : Int) (p14 : Int) (p15 : Int) (p16 : Int) (p17 : Int) (p18 : Int) (p19 : Int) (p20 : Int) (ttl : Int) (high : Int) (mark : Int) (inner0 : Int) (inner1 : Int) (inner2 : Int) (inner3 : Int) (inner4 : Int) (inner5 : Int) (inner6 : Int) (inner7 : Int) (inner8 : Int) (inner9 : Int) (inner10 : Int) (inner11 : Int) (inner12 : Int) (inner13 : Int) (inner14 : Int) :
 Xc Try.prog xcfg 400 fLaw11SpreadHash
 [Value.agg { toList := [Value.int IntKind.u32 p0, Value.int IntKind.u32 p1, Value.int IntKind.i64 p2, Value.int IntKind.i64 p3, Value.int IntKind.u32 p4, Value.int IntKind.u32 p5, Value.int IntKind.u64 p6, Value.int IntKind.u64 p7, Value.int IntKind.i64 p8, Value.int IntKind.i64 p9, Value.int IntKind.u64 p10, Value.int IntKind.u32 p11, Value.int IntKind.u64 p12, Value.int IntKind.u32 p13, Value.int IntKind.u32 p14, Value.int IntKind.u32 p15, Value.int IntKind.i64 p16, Value.int IntKind.i64 p17, Value.int IntKind.i64 p18, Value.int IntKind.i64 p19, Value.int IntKind.u64 p20] }, Value.int IntKind.i64 ttl, Value.int IntKind.i64 high, Value.int IntKind.u32 mark,
 Value.agg { toList := [Value.int IntKind.u64 inner0, Value.int IntKind.u64 inner1, Value.int IntKind.i64 inner2, Value.int IntKind.i64 inner3, Value.int IntKind.u64 inner4, Value.int IntKind.u32 inner5, Value.int IntKind.u64 inner6, Value.int IntKind.u32 inner7, Value.int IntKind.u32 inner8, Value.int IntKind.u32 inner9, Value.int IntKind.i64 inner10, Value.int IntKind.i64 inner11, Value.int IntKind.i64 inner12, Value.int IntKind.i64 inner13, Value.int IntKind.u64 inner14] }]
 m n Q =
 (memLet (Tr.set m n (AObj.cells none tApiPacket 21 [Value.int IntKind.u32 p0, Value.int IntKind.u32 p1, Value.int IntKind.i64 p2, Value.int IntKind.i64 p3, Value.int IntKind.u32 p4, Value.int IntKind.u32 p5, Value.int IntKind.u64 p6, Value.int IntKind.u64 p7, Value.int IntKind.i64 p8, Value.int IntKind.i64 p9, Value.int IntKind.u64 p10, Value.int IntKind.u32 p11, Value.int IntKind.u64 p12, Value.int IntKind.u32 p13, Value.int IntKind.u32 p14, Value.int IntKind.u32 p15, Value.int IntKind.i64 p16, Value.int IntKind.i64 p17, Value.int IntKind.i64 p18, Value.int IntKind.i64 p19, Value.int IntKind.u64 p20])) fun (m0 : Mem) =>
 memLet (Tr.set m0 (n + 1) (AObj.cells none tApiFrame 15 [Value.int IntKind.u64 inner0, Value.int IntKind.u64 inner1, Value.int IntKind.i64 inner2, Value.int IntKind.i64 inner3, Value.int IntKind.u64 inner4, Value.int IntKind.u32 inner5, Value.int IntKind.u64 inner6, Value.int IntKind.u32 inner7, Value.int IntKind.u32 inner8, Value.int IntKind.u32 inner9, Value.int IntKind.i64 inner10, Value.int IntKind.i64 inner11, Value.int IntKind.i64 inner12, Value.int IntKind.i64 inner13, Value.int IntKind.u64 inner14])) fun (m1 : Mem) =>
 ∃ (x2 : Int),
 ∃ (x3 : Int),
 ∃ (x4 : Int),
 ∃ (x5 : Int),
 ∃ (x6 : Int),
 ∃ (x7 : Int),
 ∃ (x8 : Int),
 ∃ (x9 : Int),
 ∃ (x10 : Int),
 ∃ (x11 : Int),
 ∃ (x12 : Int),
 ∃ (x13 : Int),
 ∃ (x14 : Int),
 ∃ (x15 : Int),
 ∃ (x16 : Int),
 ∃ (x17 : Int),
 ∃ (x18 : Int),
 ∃ (x19 : Int),
 ∃ (x20 : Int),
 ∃ (x21 : Int),
 ∃ (x22 : Int),
 rds m1 n 0 21 = some [Value.int IntKind.u32 x2, Value.int IntKind.u32 x3, Value.int IntKind.i64 x4, Value.int IntKind.i64 x5, Value.int IntKind.u32 x6, Value.int IntKind.u32 x7, Value.int IntKind.u64 x8, Value.int IntKind.u64 x9, Value.int IntKind.i64 x10, Value.int IntKind.i64 x11, Value.int IntKind.u64 x12, Value.int IntKind.u32 x13, Value.int IntKind.u64 x14, Value.int IntKind.u32 x15, Value.int IntKind.u32 x16, Value.int IntKind.u32 x17, Value.int IntKind.i64 x18, Value.int IntKind.i64 x19, Value.int IntKind.i64 x20, Value.int IntKind.i64 x21, Value.int IntKind.u64 x22] ∧
 memLet (Tr.set m1 (n + 1 + 1) (AObj.cells none tApiPacket 21 [Value.int IntKind.u32 0, Value.int IntKind.u32 0, Value.int IntKind.i64 0, Value.int IntKind.i64 0, Value.int IntKind.u32 0, Value.int IntKind.u32 0, Value.int IntKind.u64 0, Value.int IntKind.u64 0, Value.int IntKind.i64 0, Value.int IntKind.i64 0, Value.int IntKind.u64 0, Value.int IntKind.u32 0, Value.int IntKind.u64 0, Value.int IntKind.u32 0, Value.int IntKind.u32 0, Value.int IntKind.u32 0, Value.int IntKind.i64 0, Value.int IntKind.i64 0, Value.int IntKind.i64 0, Value.int IntKind.i64 0, Value.int IntKind.u64 0])) fun (m23 : Mem) =>
 ∃ (m24 : Mem),
 storeCs m23 (n + 1 + 1) 0 [Value.int IntKind.u32 x2, Value.int IntKind.u32 x3, Value.int IntKind.i64 x4, Value.int IntKind.i64 x5, Value.int IntKind.u32 x6, Value.int IntKind.u32 x7, Value.int IntKind.u64 x8, Value.int IntKind.u64 x9, Value.int IntKind.i64 x10, Value.int IntKind.i64 x11, Value.int IntKind.u64 x12, Value.int IntKind.u32 x13, Value.int IntKind.u64 x14, Value.int IntKind.u32 x15, Value.int IntKind.u32 x16, Value.int IntKind.u32 x17, Value.int IntKind.i64 x18, Value.int IntKind.i64 x19, Value.int IntKind.i64 x20, Value.int IntKind.i64 x21, Value.int IntKind.u64 x22] = some m24 ∧
 ∃ (x25 : Int),
 ∃ (x26 : Int),
 ∃ (x27 : Int),
 ∃ (x28 : Int),
 ∃ (x29 : Int),
 ∃ (x30 : Int),
 ∃ (x31 : Int),
 ∃ (x32 : Int),
 ∃ (x33 : Int),
 ∃ (x34 : Int),
 ∃ (x35 : Int),
 ∃ (x36 : Int),
 ∃ (x37 : Int),
 ∃ (x38 : Int),
 ∃ (x39 : Int),
 rds m24 (n + 1) 0 15 = some [Value.int IntKind.u64 x25, Value.int IntKind.u64 x26, Value.int IntKind.i64 x27, Value.int IntKind.i64 x28, Value.int IntKind.u64 x29, Value.int IntKind.u32 x30, Value.int IntKind.u64 x31, Value.int IntKind.u32 x32, Value.int IntKind.u32 x33, Value.int IntKind.u32 x34, Value.int IntKind.i64 x35, Value.int IntKind.i64 x36, Value.int IntKind.i64 x37, Value.int IntKind.i64 x38, Value.int IntKind.u64 x39] ∧
 isC m24 (n + 1 + 1) = true ∧
 ∃ (m40 : Mem),
 storeCs m24 (n + 1 + 1) 2 [Value.int IntKind.i64 ttl] = some m40 ∧
 isC m40 (n + 1 + 1) = true ∧
 ∃ (m41 : Mem),
 storeCs m40 (n + 1 + 1) 5 [Value.int IntKind.u32 mark] = some m41 ∧
 isC m41 (n + 1 + 1) = true ∧
 ∃ (m42 : Mem),
 storeCs m41 (n + 1 + 1) 6 [Value.int IntKind.u64 x25, Value.int IntKind.u64 x26, Value.int IntKind.i64 x27, Value.int IntKind.i64 x28, Value.int IntKind.u64 x29, Value.int IntKind.u32 x30, Value.int IntKind.u64 x31, Value.int IntKind.u32 x32, Value.int IntKind.u32 x33, Value.int IntKind.u32 x34, Value.int IntKind.i64 x35, Value.int IntKind.i64 x36, Value.int IntKind.i64 x37, Value.int IntKind.i64 x38, Value.int IntKind.u64 x39] = some m42 ∧
 (∃ (x43 : Int),
 ∃ (x44 : Int),
 ∃ (x45 : Int),
 ∃ (x46 : Int),
 ∃ (x47 : Int),
 ∃ (x48 : Int),
 ∃ (x49 : Int),
 ∃ (x50 : Int),
 ∃ (x51 : Int),
 ∃ (x52 : Int),
 ∃ (x53 : Int),
 ∃ (x54 : Int),
 ∃ (x55 : Int),
 ∃ (x56 : Int),
 ∃ (x57 : Int),
 rds m40 (n + 1) 0 15 = some [Value.int IntKind.u64 x43, Value.int IntKind.u64 x44, Value.int IntKind.i64 x45, Value.int IntKind.i64 x46, Value.int IntKind.u64 x47, Value.int IntKind.u32 x48, Value.int IntKind.u64 x49, Value.int IntKind.u32 x50, Value.int IntKind.u32 x51, Value.int IntKind.u32 x52, Value.int IntKind.i64 x53, Value.int IntKind.i64 x54, Value.int IntKind.i64 x55, Value.int IntKind.i64 x56, Value.int IntKind.u64 x57] ∧
 Value.agg { toList := [Value.int IntKind.u64 x43, Value.int IntKind.u64 x44, Value.int IntKind.i64 x45, Value.int IntKind.i64 x46, Value.int IntKind.u64 x47, Value.int IntKind.u32 x48, Value.int IntKind.u64 x49, Value.int IntKind.u32 x50, Value.int IntKind.u32 x51, Value.int IntKind.u32 x52, Value.int IntKind.i64 x53, Value.int IntKind.i64 x54, Value.int IntKind.i64 x55, Value.int IntKind.i64 x56, Value.int IntKind.u64 x57] } =
 Value.agg { toList := [Value.int IntKind.u64 x25, Value.int IntKind.u64 x26, Value.int IntKind.i64 x27, Value.int IntKind.i64 x28, Value.int IntKind.u64 x29, Value.int IntKind.u32 x30, Value.int IntKind.u64 x31, Value.int IntKind.u32 x32, Value.int IntKind.u32 x33, Value.int IntKind.u32 x34, Value.int IntKind.i64 x35, Value.int IntKind.i64 x36, Value.int IntKind.i64 x37, Value.int IntKind.i64 x38, Value.int IntKind.u64 x39] }) ∧
 (∃ (x58 : Int),
 ∃ (x59 : Int),
 ∃ (x60 : Int),
 ∃ (x61 : Int),
 ∃ (x62 : Int),
 ∃ (x63 : Int),
 ∃ (x64 : Int),
 ∃ (x65 : Int),
 ∃ (x66 : Int),
 ∃ (x67 : Int),
 ∃ (x68 : Int),
 ∃ (x69 : Int),
 ∃ (x70 : Int),
 ∃ (x71 : Int),
 ∃ (x72 : Int),
 rds m41 (n + 1) 0 15 = some [Value.int IntKind.u64 x58, Value.int IntKind.u64 x59, Value.int IntKind.i64 x60, Value.int IntKind.i64 x61, Value.int IntKind.u64 x62, Value.int IntKind.u32 x63, Value.int IntKind.u64 x64, Value.int IntKind.u32 x65, Value.int IntKind.u32 x66, Value.int IntKind.u32 x67, Value.int IntKind.i64 x68, Value.int IntKind.i64 x69, Value.int IntKind.i64 x70, Value.int IntKind.i64 x71, Value.int IntKind.u64 x72] ∧
 Value.agg { toList := [Value.int IntKind.u64 x58, Value.int IntKind.u64 x59, Value.int IntKind.i64 x60, Value.int IntKind.i64 x61, Value.int IntKind.u64 x62, Value.int IntKind.u32 x63, Value.int IntKind.u64 x64, Value.int IntKind.u32 x65, Value.int IntKind.u32 x66, Value.int IntKind.u32 x67, Value.int IntKind.i64 x68, Value.int IntKind.i64 x69, Value.int IntKind.i64 x70, Value.int IntKind.i64 x71, Value.int IntKind.u64 x72] } =
 Value.agg { toList := [Value.int IntKind.u64 x25, Value.int IntKind.u64 x26, Value.int IntKind.i64 x27, Value.int IntKind.i64 x28, Value.int IntKind.u64 x29, Value.int IntKind.u32 x30, Value.int IntKind.u64 x31, Value.int IntKind.u32 x32, Value.int IntKind.u32 x33, Value.int IntKind.u32 x34, Value.int IntKind.i64 x35, Value.int IntKind.i64 x36, Value.int IntKind.i64 x37, Value.int IntKind.i64 x38, Value.int IntKind.u64 x39] }) ∧
 n + 1 + 1 + 1 + 9 ≤ n + 1 + 1 + 1 + 9 ∧
 n + 1 + 1 + 1 + 9 ≤ n + 1 + 1 + 1 + 9 ∧
 n + 1 + 1 + 1 + 9 ≤ n + 1 + 1 + 1 + 9 ∧
 isC m42 n = true ∧
 ∃ (x73 : Int),
 rd m42 n 3 = some (Value.int IntKind.i64 x73) ∧
 isC m42 (n + 1 + 1) = true ∧
 ∃ (m74 : Mem),
 storeCs m42 (n + 1 + 1) 3 [Value.int IntKind.i64 (IntKind.i64.wrap (IntKind.i64.wrap (↑(BitVec.ofInt 64 x73 &&& BitVec.ofInt 64 65535).toNat : Int) + IntKind.i64.wrap (IntKind.i64.wrap (↑(BitVec.ofInt 64 high &&& BitVec.ofInt 64 16777215).toNat : Int) * 65536)))] = some m74 ∧
 isC m74 n = true ∧
 ∃ (x75 : Int),
 rd m74 n 4 = some (Value.int IntKind.u32 x75) ∧
 isC m74 (n + 1 + 1) = true ∧
 ∃ (m76 : Mem),
 storeCs m74 (n + 1 + 1) 4 [Value.int IntKind.u32 (IntKind.u32.wrap (↑(BitVec.ofInt 32 x75 ^^^ BitVec.ofInt 32 (IntKind.u32.wrap (↑(BitVec.ofInt 32 mark &&& BitVec.ofInt 32 4278190080).toNat : Int))).toNat : Int))] = some m76 ∧
 ∃ (x77 : Int),
 ∃ (x78 : Int),
 ∃ (x79 : Int),
 ∃ (x80 : Int),
 ∃ (x81 : Int),
 ∃ (x82 : Int),
 ∃ (x83 : Int),
 ∃ (x84 : Int),
 ∃ (x85 : Int),
 ∃ (x86 : Int),
 ∃ (x87 : Int),
 ∃ (x88 : Int),
 ∃ (x89 : Int),
 ∃ (x90 : Int),
 ∃ (x91 : Int),
 ∃ (x92 : Int),
 ∃ (x93 : Int),
 ∃ (x94 : Int),
 ∃ (x95 : Int),
 ∃ (x96 : Int),
 ∃ (x97 : Int),
 rds m76 n 0 21 = some [Value.int IntKind.u32 x77, Value.int IntKind.u32 x78, Value.int IntKind.i64 x79, Value.int IntKind.i64 x80, Value.int IntKind.u32 x81, Value.int IntKind.u32 x82, Value.int IntKind.u64 x83, Value.int IntKind.u64 x84, Value.int IntKind.i64 x85, Value.int IntKind.i64 x86, Value.int IntKind.u64 x87, Value.int IntKind.u32 x88, Value.int IntKind.u64 x89, Value.int IntKind.u32 x90, Value.int IntKind.u32 x91, Value.int IntKind.u32 x92, Value.int IntKind.i64 x93, Value.int IntKind.i64 x94, Value.int IntKind.i64 x95, Value.int IntKind.i64 x96, Value.int IntKind.u64 x97] ∧
 ∃ (x98 : Int),
 ∃ (m99 : Mem),
 ∃ (k100 : Nat),
 (Wc Try.prog fSpreadHash [Value.agg { toList := [Value.int IntKind.u32 x77, Value.int IntKind.u32 x78, Value.int IntKind.i64 x79, Value.int IntKind.i64 x80, Value.int IntKind.u32 x81, Value.int IntKind.u32 x82, Value.int IntKind.u64 x83, Value.int IntKind.u64 x84, Value.int IntKind.i64 x85, Value.int IntKind.i64 x86, Value.int IntKind.u64 x87, Value.int IntKind.u32 x88, Value.int IntKind.u64 x89, Value.int IntKind.u32 x90, Value.int IntKind.u32 x91, Value.int IntKind.u32 x92, Value.int IntKind.i64 x93, Value.int IntKind.i64 x94, Value.int IntKind.i64 x95, Value.int IntKind.i64 x96, Value.int IntKind.u64 x97] }] m76 (n + 1 + 1 + 1 + 9 + 16) fun (v101 : Value) (m102 : Mem) (k103 : Nat) =>
 v101 = Value.int IntKind.u64 x98 ∧ m102 = m99 ∧ k103 = k100) ∧
 Later
 (∃ (x104 : Int),
 ∃ (x105 : Int),
 ∃ (x106 : Int),
 ∃ (x107 : Int),
 ∃ (x108 : Int),
 ∃ (x109 : Int),
 ∃ (x110 : Int),
 ∃ (x111 : Int),
 ∃ (x112 : Int),
 ∃ (x113 : Int),
 ∃ (x114 : Int),
 ∃ (x115 : Int),
 ∃ (x116 : Int),
 ∃ (x117 : Int),
 ∃ (x118 : Int),
 ∃ (x119 : Int),
 ∃ (x120 : Int),
 ∃ (x121 : Int),
 ∃ (x122 : Int),
 ∃ (x123 : Int),
 ∃ (x124 : Int),
 rds m99 n 0 21 = some [Value.int IntKind.u32 x104, Value.int IntKind.u32 x105, Value.int IntKind.i64 x106, Value.int IntKind.i64 x107, Value.int IntKind.u32 x108, Value.int IntKind.u32 x109, Value.int IntKind.u64 x110, Value.int IntKind.u64 x111, Value.int IntKind.i64 x112, Value.int IntKind.i64 x113, Value.int IntKind.u64 x114, Value.int IntKind.u32 x115, Value.int IntKind.u64 x116, Value.int IntKind.u32 x117, Value.int IntKind.u32 x118, Value.int IntKind.u32 x119, Value.int IntKind.i64 x120, Value.int IntKind.i64 x121, Value.int IntKind.i64 x122, Value.int IntKind.i64 x123, Value.int IntKind.u64 x124] ∧
 ∃ (x125 : Int),
 ∃ (m126 : Mem),
 ∃ (k127 : Nat),
 (Wc Try.prog fRef11Hash [Value.agg { toList := [Value.int IntKind.u32 x104, Value.int IntKind.u32 x105, Value.int IntKind.i64 x106, Value.int IntKind.i64 x107, Value.int IntKind.u32 x108, Value.int IntKind.u32 x109, Value.int IntKind.u64 x110, Value.int IntKind.u64 x111, Value.int IntKind.i64 x112, Value.int IntKind.i64 x113, Value.int IntKind.u64 x114, Value.int IntKind.u32 x115, Value.int IntKind.u64 x116, Value.int IntKind.u32 x117, Value.int IntKind.u32 x118, Value.int IntKind.u32 x119, Value.int IntKind.i64 x120, Value.int IntKind.i64 x121, Value.int IntKind.i64 x122, Value.int IntKind.i64 x123, Value.int IntKind.u64 x124] }] m99 k100
 fun (v128 : Value) (m129 : Mem) (k130 : Nat) => v128 = Value.int IntKind.u64 x125 ∧ m129 = m126 ∧ k130 = k127) ∧
 Later
 (bif x98 == x125 then
 ∃ (x131 : Int),
 ∃ (x132 : Int),
 ∃ (x133 : Int),
 ∃ (x134 : Int),
 ∃ (x135 : Int),
 ∃ (x136 : Int),
 ∃ (x137 : Int),
 ∃ (x138 : Int),
 ∃ (x139 : Int),
 ∃ (x140 : Int),
 ∃ (x141 : Int),
 ∃ (x142 : Int),
 ∃ (x143 : Int),
 ∃ (x144 : Int),
 ∃ (x145 : Int),
 ∃ (x146 : Int),
 ∃ (x147 : Int),
 ∃ (x148 : Int),
 ∃ (x149 : Int),
 ∃ (x150 : Int),
 ∃ (x151 : Int),
 rds m126 (n + 1 + 1) 0 21 =
 some [Value.int IntKind.u32 x131, Value.int IntKind.u32 x132, Value.int IntKind.i64 x133, Value.int IntKind.i64 x134, Value.int IntKind.u32 x135, Value.int IntKind.u32 x136, Value.int IntKind.u64 x137, Value.int IntKind.u64 x138, Value.int IntKind.i64 x139, Value.int IntKind.i64 x140, Value.int IntKind.u64 x141, Value.int IntKind.u32 x142, Value.int IntKind.u64 x143, Value.int IntKind.u32 x144, Value.int IntKind.u32 x145, Value.int IntKind.u32 x146, Value.int IntKind.i64 x147, Value.int IntKind.i64 x148, Value.int IntKind.i64 x149, Value.int IntKind.i64 x150, Value.int IntKind.u64 x151] ∧
 ∃ (x152 : Int),
 ∃ (m153 : Mem),
 ∃ (k154 : Nat),
 (Wc Try.prog fSpreadHash
 [Value.agg
 { toList :=
 [Value.int IntKind.u32 x131, Value.int IntKind.u32 x132, Value.int IntKind.i64 x133, Value.int IntKind.i64 x134, Value.int IntKind.u32 x135, Value.int IntKind.u32 x136, Value.int IntKind.u64 x137, Value.int IntKind.u64 x138, Value.int IntKind.i64 x139, Value.int IntKind.i64 x140, Value.int IntKind.u64 x141, Value.int IntKind.u32 x142, Value.int IntKind.u64 x143, Value.int IntKind.u32 x144, Value.int IntKind.u32 x145, Value.int IntKind.u32 x146, Value.int IntKind.i64 x147, Value.int IntKind.i64 x148, Value.int IntKind.i64 x149, Value.int IntKind.i64 x150,
 Value.int IntKind.u64 x151] }]
 m126 k127 fun (v155 : Value) (m156 : Mem) (k157 : Nat) => v155 = Value.int IntKind.u64 x152 ∧ m156 = m153 ∧ k157 = k154) ∧
 Later
 (∃ (x158 : Int),
 ∃ (x159 : Int),
 ∃ (x160 : Int),
 ∃ (x161 : Int),
 ∃ (x162 : Int),
 ∃ (x163 : Int),
 ∃ (x164 : Int),
 ∃ (x165 : Int),
 ∃ (x166 : Int),
 ∃ (x167 : Int),
 ∃ (x168 : Int),
 ∃ (x169 : Int),
 ∃ (x170 : Int),
 ∃ (x171 : Int),
 ∃ (x172 : Int),
 ∃ (x173 : Int),
 ∃ (x174 : Int),
 ∃ (x175 : Int),
 ∃ (x176 : Int),
 ∃ (x177 : Int),
 ∃ (x178 : Int),
 rds m153 n 0 21 =
 some
 [Value.int IntKind.u32 x158, Value.int IntKind.u32 x159, Value.int IntKind.i64 x160, Value.int IntKind.i64 x161, Value.int IntKind.u32 x162, Value.int IntKind.u32 x163, Value.int IntKind.u64 x164, Value.int IntKind.u64 x165, Value.int IntKind.i64 x166, Value.int IntKind.i64 x167, Value.int IntKind.u64 x168, Value.int IntKind.u32 x169, Value.int IntKind.u64 x170, Value.int IntKind.u32 x171, Value.int IntKind.u32 x172, Value.int IntKind.u32 x173, Value.int IntKind.i64 x174, Value.int IntKind.i64 x175, Value.int IntKind.i64 x176,
 Value.int IntKind.i64 x177, Value.int IntKind.u64 x178] ∧
 ∃ (x179 : Int),
 ∃ (m180 : Mem),
 ∃ (k181 : Nat),
 (Wc Try.prog fSpreadHash
 [Value.agg
 { toList :=
 [Value.int IntKind.u32 x158, Value.int IntKind.u32 x159, Value.int IntKind.i64 x160, Value.int IntKind.i64 x161, Value.int IntKind.u32 x162, Value.int IntKind.u32 x163, Value.int IntKind.u64 x164, Value.int IntKind.u64 x165, Value.int IntKind.i64 x166, Value.int IntKind.i64 x167, Value.int IntKind.u64 x168, Value.int IntKind.u32 x169, Value.int IntKind.u64 x170, Value.int IntKind.u32 x171, Value.int IntKind.u32 x172, Value.int IntKind.u32 x173, Value.int IntKind.i64 x174, Value.int IntKind.i64 x175, Value.int IntKind.i64 x176,
 Value.int IntKind.i64 x177, Value.int IntKind.u64 x178] }]
 m153 k154 fun (v182 : Value) (m183 : Mem) (k184 : Nat) => v182 = Value.int IntKind.u64 x179 ∧ m183 = m180 ∧ k184 = k181) ∧
 Later
 (bif x152 == x179 then
 ∃ (b185 : Bool),
 ∃ (m186 : Mem),
 ∃ (k187 : Nat),
 (Wc Try.prog fLaw11awake [] m180 k181 fun (v188 : Value) (m189 : Mem) (k190 : Nat) => v188 = Value.bool b185 ∧ m189 = m186 ∧ k190 = k187) ∧
 Later
 ((∃ (x191 : Int),
 ∃ (x192 : Int),
 ∃ (x193 : Int),
 ∃ (x194 : Int),
 ∃ (x195 : Int),
 ∃ (x196 : Int),
 ∃ (x197 : Int),
 ∃ (x198 : Int),
 ∃ (x199 : Int),
 ∃ (x200 : Int),
 ∃ (x201 : Int),
 ∃ (x202 : Int),
 ∃ (x203 : Int),
 ∃ (x204 : Int),
 ∃ (x205 : Int),
 ∃ (x206 : Int),
 ∃ (x207 : Int),
 ∃ (x208 : Int),
 ∃ (x209 : Int),
 ∃ (x210 : Int),
 ∃ (x211 : Int),
 rds m126 n 0 21 =
 some
 [Value.int IntKind.u32 x191, Value.int IntKind.u32 x192, Value.int IntKind.i64 x193, Value.int IntKind.i64 x194, Value.int IntKind.u32 x195, Value.int IntKind.u32 x196, Value.int IntKind.u64 x197, Value.int IntKind.u64 x198, Value.int IntKind.i64 x199, Value.int IntKind.i64 x200, Value.int IntKind.u64 x201, Value.int IntKind.u32 x202, Value.int IntKind.u64 x203, Value.int IntKind.u32 x204, Value.int IntKind.u32 x205, Value.int IntKind.u32 x206, Value.int IntKind.i64 x207,
 Value.int IntKind.i64 x208, Value.int IntKind.i64 x209, Value.int IntKind.i64 x210, Value.int IntKind.u64 x211] ∧
 Value.agg
 { toList :=
 [Value.int IntKind.u32 x191, Value.int IntKind.u32 x192, Value.int IntKind.i64 x193, Value.int IntKind.i64 x194, Value.int IntKind.u32 x195, Value.int IntKind.u32 x196, Value.int IntKind.u64 x197, Value.int IntKind.u64 x198, Value.int IntKind.i64 x199, Value.int IntKind.i64 x200, Value.int IntKind.u64 x201, Value.int IntKind.u32 x202, Value.int IntKind.u64 x203, Value.int IntKind.u32 x204, Value.int IntKind.u32 x205, Value.int IntKind.u32 x206, Value.int IntKind.i64 x207,
 Value.int IntKind.i64 x208, Value.int IntKind.i64 x209, Value.int IntKind.i64 x210, Value.int IntKind.u64 x211] } =
 Value.agg
 { toList :=
 [Value.int IntKind.u32 x158, Value.int IntKind.u32 x159, Value.int IntKind.i64 x160, Value.int IntKind.i64 x161, Value.int IntKind.u32 x162, Value.int IntKind.u32 x163, Value.int IntKind.u64 x164, Value.int IntKind.u64 x165, Value.int IntKind.i64 x166, Value.int IntKind.i64 x167, Value.int IntKind.u64 x168, Value.int IntKind.u32 x169, Value.int IntKind.u64 x170, Value.int IntKind.u32 x171, Value.int IntKind.u32 x172, Value.int IntKind.u32 x173, Value.int IntKind.i64 x174,
 Value.int IntKind.i64 x175, Value.int IntKind.i64 x176, Value.int IntKind.i64 x177, Value.int IntKind.u64 x178] }) ∧
 (∃ (x212 : Int),
 ∃ (x213 : Int),
 ∃ (x214 : Int),
 ∃ (x215 : Int),
 ∃ (x216 : Int),
 ∃ (x217 : Int),
 ∃ (x218 : Int),
 ∃ (x219 : Int),
 ∃ (x220 : Int),
 ∃ (x221 : Int),
 ∃ (x222 : Int),
 ∃ (x223 : Int),
 ∃ (x224 : Int),
 ∃ (x225 : Int),
 ∃ (x226 : Int),
 ∃ (x227 : Int),
 ∃ (x228 : Int),
 ∃ (x229 : Int),
 ∃ (x230 : Int),
 ∃ (x231 : Int),
 ∃ (x232 : Int),
 rds m76 n 0 21 =
 some
 [Value.int IntKind.u32 x212, Value.int IntKind.u32 x213, Value.int IntKind.i64 x214, Value.int IntKind.i64 x215, Value.int IntKind.u32 x216, Value.int IntKind.u32 x217, Value.int IntKind.u64 x218, Value.int IntKind.u64 x219, Value.int IntKind.i64 x220, Value.int IntKind.i64 x221, Value.int IntKind.u64 x222, Value.int IntKind.u32 x223, Value.int IntKind.u64 x224, Value.int IntKind.u32 x225, Value.int IntKind.u32 x226, Value.int IntKind.u32 x227, Value.int IntKind.i64 x228,
 Value.int IntKind.i64 x229, Value.int IntKind.i64 x230, Value.int IntKind.i64 x231, Value.int IntKind.u64 x232] ∧
 Value.agg
 { toList :=
 [Value.int IntKind.u32 x212, Value.int IntKind.u32 x213, Value.int IntKind.i64 x214, Value.int IntKind.i64 x215, Value.int IntKind.u32 x216, Value.int IntKind.u32 x217, Value.int IntKind.u64 x218, Value.int IntKind.u64 x219, Value.int IntKind.i64 x220, Value.int IntKind.i64 x221, Value.int IntKind.u64 x222, Value.int IntKind.u32 x223, Value.int IntKind.u64 x224, Value.int IntKind.u32 x225, Value.int IntKind.u32 x226, Value.int IntKind.u32 x227, Value.int IntKind.i64 x228,
 Value.int IntKind.i64 x229, Value.int IntKind.i64 x230, Value.int IntKind.i64 x231, Value.int IntKind.u64 x232] } =
 Value.agg
 { toList :=
 [Value.int IntKind.u32 x104, Value.int IntKind.u32 x105, Value.int IntKind.i64 x106, Value.int IntKind.i64 x107, Value.int IntKind.u32 x108, Value.int IntKind.u32 x109, Value.int IntKind.u64 x110, Value.int IntKind.u64 x111, Value.int IntKind.i64 x112, Value.int IntKind.i64 x113, Value.int IntKind.u64 x114, Value.int IntKind.u32 x115, Value.int IntKind.u64 x116, Value.int IntKind.u32 x117, Value.int IntKind.u32 x118, Value.int IntKind.u32 x119, Value.int IntKind.i64 x120,
 Value.int IntKind.i64 x121, Value.int IntKind.i64 x122, Value.int IntKind.i64 x123, Value.int IntKind.u64 x124] }) ∧
 n + 1 + 1 + 1 + 9 + 16 ≤ k100 ∧ n + 1 + 1 + 1 + 9 + 16 ≤ k127 ∧ n + 1 + 1 + 1 + 9 + 16 ≤ k154 ∧ n + 1 + 1 + 1 + 9 + 16 ≤ k181 ∧ n + 1 + 1 + 1 + 9 + 16 ≤ k187 ∧ Q (Value.bool b185) m186 k187)
 else
 (∃ (x233 : Int),
 ∃ (x234 : Int),
 ∃ (x235 : Int),
 ∃ (x236 : Int),
 ∃ (x237 : Int),
 ∃ (x238 : Int),
 ∃ (x239 : Int),
 ∃ (x240 : Int),
 ∃ (x241 : Int),
 ∃ (x242 : Int),
 ∃ (x243 : Int),
 ∃ (x244 : Int),
 ∃ (x245 : Int),
 ∃ (x246 : Int),
 ∃ (x247 : Int),
 ∃ (x248 : Int),
 ∃ (x249 : Int),
 ∃ (x250 : Int),
 ∃ (x251 : Int),
 ∃ (x252 : Int),
 ∃ (x253 : Int),
 rds m126 n 0 21 =
 some
 [Value.int IntKind.u32 x233, Value.int IntKind.u32 x234, Value.int IntKind.i64 x235, Value.int IntKind.i64 x236, Value.int IntKind.u32 x237, Value.int IntKind.u32 x238, Value.int IntKind.u64 x239, Value.int IntKind.u64 x240, Value.int IntKind.i64 x241, Value.int IntKind.i64 x242, Value.int IntKind.u64 x243, Value.int IntKind.u32 x244, Value.int IntKind.u64 x245, Value.int IntKind.u32 x246, Value.int IntKind.u32 x247, Value.int IntKind.u32 x248, Value.int IntKind.i64 x249,
 Value.int IntKind.i64 x250, Value.int IntKind.i64 x251, Value.int IntKind.i64 x252, Value.int IntKind.u64 x253] ∧
 Value.agg
 { toList :=
 [Value.int IntKind.u32 x233, Value.int IntKind.u32 x234, Value.int IntKind.i64 x235, Value.int IntKind.i64 x236, Value.int IntKind.u32 x237, Value.int IntKind.u32 x238, Value.int IntKind.u64 x239, Value.int IntKind.u64 x240, Value.int IntKind.i64 x241, Value.int IntKind.i64 x242, Value.int IntKind.u64 x243, Value.int IntKind.u32 x244, Value.int IntKind.u64 x245, Value.int IntKind.u32 x246, Value.int IntKind.u32 x247, Value.int IntKind.u32 x248, Value.int IntKind.i64 x249,
 Value.int IntKind.i64 x250, Value.int IntKind.i64 x251, Value.int IntKind.i64 x252, Value.int IntKind.u64 x253] } =
 Value.agg
 { toList :=
 [Value.int IntKind.u32 x158, Value.int IntKind.u32 x159, Value.int IntKind.i64 x160, Value.int IntKind.i64 x161, Value.int IntKind.u32 x162, Value.int IntKind.u32 x163, Value.int IntKind.u64 x164, Value.int IntKind.u64 x165, Value.int IntKind.i64 x166, Value.int IntKind.i64 x167, Value.int IntKind.u64 x168, Value.int IntKind.u32 x169, Value.int IntKind.u64 x170, Value.int IntKind.u32 x171, Value.int IntKind.u32 x172, Value.int IntKind.u32 x173, Value.int IntKind.i64 x174,
 Value.int IntKind.i64 x175, Value.int IntKind.i64 x176, Value.int IntKind.i64 x177, Value.int IntKind.u64 x178] }) ∧
 (∃ (x254 : Int),
 ∃ (x255 : Int),
 ∃ (x256 : Int),
 ∃ (x257 : Int),
 ∃ (x258 : Int),
 ∃ (x259 : Int),
 ∃ (x260 : Int),
 ∃ (x261 : Int),
 ∃ (x262 : Int),
 ∃ (x263 : Int),
 ∃ (x264 : Int),
 ∃ (x265 : Int),
 ∃ (x266 : Int),
 ∃ (x267 : Int),
 ∃ (x268 : Int),
 ∃ (x269 : Int),
 ∃ (x270 : Int),
 ∃ (x271 : Int),
 ∃ (x272 : Int),
 ∃ (x273 : Int),
 ∃ (x274 : Int),
 rds m76 n 0 21 =
 some
 [Value.int IntKind.u32 x254, Value.int IntKind.u32 x255, Value.int IntKind.i64 x256, Value.int IntKind.i64 x257, Value.int IntKind.u32 x258, Value.int IntKind.u32 x259, Value.int IntKind.u64 x260, Value.int IntKind.u64 x261, Value.int IntKind.i64 x262, Value.int IntKind.i64 x263, Value.int IntKind.u64 x264, Value.int IntKind.u32 x265, Value.int IntKind.u64 x266, Value.int IntKind.u32 x267, Value.int IntKind.u32 x268, Value.int IntKind.u32 x269, Value.int IntKind.i64 x270,
 Value.int IntKind.i64 x271, Value.int IntKind.i64 x272, Value.int IntKind.i64 x273, Value.int IntKind.u64 x274] ∧
 Value.agg
 { toList :=
 [Value.int IntKind.u32 x254, Value.int IntKind.u32 x255, Value.int IntKind.i64 x256, Value.int IntKind.i64 x257, Value.int IntKind.u32 x258, Value.int IntKind.u32 x259, Value.int IntKind.u64 x260, Value.int IntKind.u64 x261, Value.int IntKind.i64 x262, Value.int IntKind.i64 x263, Value.int IntKind.u64 x264, Value.int IntKind.u32 x265, Value.int IntKind.u64 x266, Value.int IntKind.u32 x267, Value.int IntKind.u32 x268, Value.int IntKind.u32 x269, Value.int IntKind.i64 x270,
 Value.int IntKind.i64 x271, Value.int IntKind.i64 x272, Value.int IntKind.i64 x273, Value.int IntKind.u64 x274] } =
 Value.agg
 { toList :=
 [Value.int IntKind.u32 x104, Value.int IntKind.u32 x105, Value.int IntKind.i64 x106, Value.int IntKind.i64 x107, Value.int IntKind.u32 x108, Value.int IntKind.u32 x109, Value.int IntKind.u64 x110, Value.int IntKind.u64 x111, Value.int IntKind.i64 x112, Value.int IntKind.i64 x113, Value.int IntKind.u64 x114, Value.int IntKind.u32 x115, Value.int IntKind.u64 x116, Value.int IntKind.u32 x117, Value.int IntKind.u32 x118, Value.int IntKind.u32 x119, Value.int IntKind.i64 x120,
 Value.int IntKind.i64 x121, Value.int IntKind.i64 x122, Value.int IntKind.i64 x123, Value.int IntKind.u64 x124] }) ∧
 n + 1 + 1 + 1 + 9 + 16 ≤ k100 ∧ n + 1 + 1 + 1 + 9 + 16 ≤ k127 ∧ n + 1 + 1 + 1 + 9 + 16 ≤ k154 ∧ n + 1 + 1 + 1 + 9 + 16 ≤ k181 ∧ Q (Value.bool false) m180 k181))
 else
 (∃ (x275 : Int),
 ∃ (x276 : Int),
 ∃ (x277 : Int),
 ∃ (x278 : Int),
 ∃ (x279 : Int),
 ∃ (x280 : Int),
 ∃ (x281 : Int),
 ∃ (x282 : Int),
 ∃ (x283 : Int),
 ∃ (x284 : Int),
 ∃ (x285 : Int),
 ∃ (x286 : Int),
 ∃ (x287 : Int),
 ∃ (x288 : Int),
 ∃ (x289 : Int),
 ∃ (x290 : Int),
 ∃ (x291 : Int),
 ∃ (x292 : Int),
 ∃ (x293 : Int),
 ∃ (x294 : Int),
 ∃ (x295 : Int),
 rds m76 n 0 21 =
 some [Value.int IntKind.u32 x275, Value.int IntKind.u32 x276, Value.int IntKind.i64 x277, Value.int IntKind.i64 x278, Value.int IntKind.u32 x279, Value.int IntKind.u32 x280, Value.int IntKind.u64 x281, Value.int IntKind.u64 x282, Value.int IntKind.i64 x283, Value.int IntKind.i64 x284, Value.int IntKind.u64 x285, Value.int IntKind.u32 x286, Value.int IntKind.u64 x287, Value.int IntKind.u32 x288, Value.int IntKind.u32 x289, Value.int IntKind.u32 x290, Value.int IntKind.i64 x291, Value.int IntKind.i64 x292, Value.int IntKind.i64 x293, Value.int IntKind.i64 x294, Value.int IntKind.u64 x295] ∧
 Value.agg
 { toList :=
 [Value.int IntKind.u32 x275, Value.int IntKind.u32 x276, Value.int IntKind.i64 x277, Value.int IntKind.i64 x278, Value.int IntKind.u32 x279, Value.int IntKind.u32 x280, Value.int IntKind.u64 x281, Value.int IntKind.u64 x282, Value.int IntKind.i64 x283, Value.int IntKind.i64 x284, Value.int IntKind.u64 x285, Value.int IntKind.u32 x286, Value.int IntKind.u64 x287, Value.int IntKind.u32 x288, Value.int IntKind.u32 x289, Value.int IntKind.u32 x290, Value.int IntKind.i64 x291, Value.int IntKind.i64 x292, Value.int IntKind.i64 x293, Value.int IntKind.i64 x294, Value.int IntKind.u64 x295] } =
 Value.agg
 { toList :=
 [Value.int IntKind.u32 x104, Value.int IntKind.u32 x105, Value.int IntKind.i64 x106, Value.int IntKind.i64 x107, Value.int IntKind.u32 x108, Value.int IntKind.u32 x109, Value.int IntKind.u64 x110, Value.int IntKind.u64 x111, Value.int IntKind.i64 x112, Value.int IntKind.i64 x113, Value.int IntKind.u64 x114, Value.int IntKind.u32 x115, Value.int IntKind.u64 x116, Value.int IntKind.u32 x117, Value.int IntKind.u32 x118, Value.int IntKind.u32 x119, Value.int IntKind.i64 x120, Value.int IntKind.i64 x121, Value.int IntKind.i64 x122, Value.int IntKind.i64 x123, Value.int IntKind.u64 x124] }) ∧
 n + 1 + 1 + 1 + 9 + 16 ≤ k100 ∧ n + 1 + 1 + 1 + 9 + 16 ≤ k127 ∧ Q (Value.bool false) m126 k127))) := by kernel_rfl

/- 10 leafmesh/spread.New -/
theorem xSpreadNew (m : Mem) (n : Nat) (Q : Value → Mem → Nat → Prop) (buckets : Int) :
 Xc Try.prog xcfg 400 fSpreadNew [Value.int IntKind.i64 buckets] m n Q =
 (bif decide (buckets < 1) then Q (Value.tuple { toList := [Value.pointer none, Value.int IntKind.i64 2] }) m n
 else bif decide (buckets > 256) then Q (Value.tuple { toList := [Value.pointer none, Value.int IntKind.i64 2] }) m n else memLet (Tr.set m n (AObj.cells none tInt 1 [Value.int IntKind.i64 (-1)])) fun (m0 : Mem) => Wc Try.prog fSlicesRepeatLintint [Value.slice (some { block := n, off := 0 }) 1 1, Value.int IntKind.i64 buckets] m0 (n + 1) fun (v1 : Value) (m2 : Mem) (k3 : Nat) => ∃ (p4 : Option Addr), ∃ (k5 : Nat), ∃ (k6 : Nat), v1 = Value.slice p4 k5 k6 ∧ Later (memLet (Tr.set m2 k3 (AObj.cells none tSpreadstate 2 [Value.slice none 0 0, Value.slice p4 k5 k6])) fun (m7 : Mem) => memLet (Tr.set m7 (k3 + 1) (AObj.cells none tSpreadWheel 1 [Value.pointer (some { block := k3, off := 0 })])) fun (m8 : Mem) => Q (Value.tuple { toList := [Value.pointer (some { block := k3 + 1, off := 0 }), Value.int IntKind.i64 0] }) m8 (k3 + 1 + 1))) := by kernel_rfl

/- 11 (*leafmesh/spread.Wheel).Pick -/
theorem xSpreadWheelPick (m : Mem) (n : Nat) (Q : Value → Mem → Nat → Prop) (w : Nat) (hash : Int) :
 Xc Try.prog xcfg 400 fSpreadWheelPick [Value.pointer (some { block := w, off := 0 }), Value.int IntKind.u64 hash] m n Q =
 (Wc Try.prog fSpreadWheelvalid [Value.pointer (some { block := w, off := 0 })] m n fun (v0 : Value) (m1 : Mem) (k2 : Nat) =>
 ∃ (b3 : Bool),
 v0 = Value.bool b3 ∧
 Later
 (bif !b3 then Q (Value.tuple { toList := [Value.int IntKind.i64 0, Value.bool false] }) m1 k2
 else
 isC m1 w = true ∧
 ∃ (p4 : Option Addr),
 rd m1 w 0 = some (Value.pointer p4) ∧
 elimP p4 False fun (k5 k6 : Nat) =>
 isC m1 k5 = true ∧
 ∃ (p7 : Option Addr),
 ∃ (k8 : Nat),
 ∃ (k9 : Nat),
 rd m1 k5 (k6 + 0) = some (Value.slice p7 k8 k9) ∧
 bif (↑k8 : Int) == 0 then Q (Value.tuple { toList := [Value.int IntKind.i64 0, Value.bool false] }) m1 k2
 else
 isC m1 w = true ∧
 ∃ (p10 : Option Addr),
 rd m1 w 0 = some (Value.pointer p10) ∧
 elimP p10 False fun (k11 k12 : Nat) =>
 isC m1 k11 = true ∧ ∃ (p13 : Option Addr), ∃ (k14 : Nat), ∃ (k15 : Nat), rd m1 k11 (k12 + 1) = some (Value.slice p13 k14 k15) ∧ isC m1 w = true ∧ ∃ (p16 : Option Addr), rd m1 w 0 = some (Value.pointer p16) ∧ elimP p16 False fun (k17 k18 : Nat) => isC m1 k17 = true ∧ ∃ (p19 : Option Addr), ∃ (k20 : Nat), ∃ (k21 : Nat), rd m1 k17 (k18 + 1) = some (Value.slice p19 k20 k21) ∧ IntKind.u64.wrap (↑k20 : Int) ≠ 0 ∧ elimA p13 False fun (k22 k23 : Nat) (p24 : Option Nat) => (0 ≤ hash.tmod (IntKind.u64.wrap (↑k20 : Int)) ∧ hash.tmod (IntKind.u64.wrap (↑k20 : Int)) < (↑k14 : Int) ∧ liveAt m1 k22 = true ∧ (p24 ≠ none → 0 < k15)) ∧ ∃ (x25 : Int), rd m1 k22 (offOf k23 p24 + (hash.tmod (IntKind.u64.wrap (↑k20 : Int))).toNat * 1) = some (Value.int IntKind.i64 x25) ∧ Q (Value.tuple { toList := [Value.int IntKind.i64 x25, Value.bool true] }) m1 (k2 + 22))) := by kernel_rfl

/- 12 leafmesh/leafmeshkit.Same[int] -/
theorem xKitSameint (m : Mem) (n : Nat) (Q : Value → Mem → Nat → Prop) (a_a : Option Addr) (a_l : Nat) (a_c : Nat) (b_a : Option Addr) (b_l : Nat) (b_c : Nat) :
 Xc Try.prog xcfg 400 fKitSameint [Value.slice a_a a_l a_c, Value.slice b_a b_l b_c] m n Q =
 (bif (↑a_l : Int) != (↑b_l : Int) then Q (Value.bool false) m n else W Try.prog { fn := fKitSameint, nt := 26, slots := [(0, Value.slice a_a a_l a_c), (1, Value.slice b_a b_l b_c), (5, Value.int IntKind.i64 0)], todo := pt Try.prog fKitSameint [1, 1, 0, 1, 0, 0] } m n Q) := by kernel_rfl

theorem xKitSameintk0 (m : Mem) (n : Nat) (Q : Value → Mem → Nat → Prop) (a_a : Option Addr) (a_l : Nat) (a_c : Nat) (b_a : Option Addr) (b_l : Nat) (b_c : Nat) (i : Int) :
 xF (evX Try.prog xcfg 400) { fn := fKitSameint, nt := 26, slots := [(0, Value.slice a_a a_l a_c), (1, Value.slice b_a b_l b_c), (5, Value.int IntKind.i64 i)], todo := pt Try.prog fKitSameint [1, 1, 0, 1, 0, 0] } m n Q =
 (bif decide (i < (↑a_l : Int)) then elimA a_a False fun (k0 k1 : Nat) (p2 : Option Nat) => (0 ≤ i ∧ i < (↑a_l : Int) ∧ liveAt m k0 = true ∧ (p2 ≠ none → 0 < a_c)) ∧ ∃ (x3 : Int), rd m k0 (offOf k1 p2 + i.toNat * 1) = some (Value.int IntKind.i64 x3) ∧ elimA b_a False fun (k4 k5 : Nat) (p6 : Option Nat) => (0 ≤ i ∧ i < (↑b_l : Int) ∧ liveAt m k4 = true ∧ (p6 ≠ none → 0 < b_c)) ∧ ∃ (x7 : Int), rd m k4 (offOf k5 p6 + i.toNat * 1) = some (Value.int IntKind.i64 x7) ∧ bif x3 != x7 then Q (Value.bool false) m (n + 9) else W Try.prog { fn := fKitSameint, nt := 26, slots := [(0, Value.slice a_a a_l a_c), (1, Value.slice b_a b_l b_c), (5, Value.int IntKind.i64 (IntKind.i64.wrap (i + 1)))], todo := pt Try.prog fKitSameint [1, 1, 0, 1, 0, 0] } m (n + 9) Q else Q (Value.bool true) m n) := by kernel_rfl

/- 13 (*leafmesh/spread.Wheel).Buckets -/
theorem xSpreadWheelBuckets (m : Mem) (n : Nat) (Q : Value → Mem → Nat → Prop) (w : Nat) :
 Xc Try.prog xcfg 400 fSpreadWheelBuckets [Value.pointer (some { block := w, off := 0 })] m n Q =
 (Wc Try.prog fSpreadWheelvalid [Value.pointer (some { block := w, off := 0 })] m n fun (v0 : Value) (m1 : Mem) (k2 : Nat) => ∃ (b3 : Bool), v0 = Value.bool b3 ∧ Later (bif !b3 then Q (Value.slice none 0 0) m1 k2 else isC m1 w = true ∧ ∃ (p4 : Option Addr), rd m1 w 0 = some (Value.pointer p4) ∧ elimP p4 False fun (k5 k6 : Nat) => isC m1 k5 = true ∧ ∃ (p7 : Option Addr), ∃ (k8 : Nat), ∃ (k9 : Nat), rd m1 k5 (k6 + 1) = some (Value.slice p7 k8 k9) ∧ Wc Try.prog fSlicesCloneLintint [Value.slice p7 k8 k9] m1 k2 fun (v10 : Value) (m11 : Mem) (k12 : Nat) => ∃ (p13 : Option Addr), ∃ (k14 : Nat), ∃ (k15 : Nat), v10 = Value.slice p13 k14 k15 ∧ Later (Q (Value.slice p13 k14 k15) m11 k12))) := by kernel_rfl

/- 14 (*leafmesh/spread.Wheel).Set -/
theorem xSpreadWheelSet (m : Mem) (n : Nat) (Q : Value → Mem → Nat → Prop) (w : Nat) (next_a : Option Addr) (next_l : Nat) (next_c : Nat) :
 Xc Try.prog xcfg 400 fSpreadWheelSet [Value.pointer (some { block := w, off := 0 }), Value.slice next_a next_l next_c] m n Q =
 (memLet (Tr.set m n (AObj.cells none tPspreadWheel 1 [Value.pointer (some { block := w, off := 0 })])) fun (m0 : Mem) => W Try.prog { fn := fSpreadWheelSet, nt := 179, slots := [(1, Value.slice next_a next_l next_c), (2, Value.pointer (some { block := n, off := 0 }))], todo := pt Try.prog fSpreadWheelSet [1, 0, 0] } m0 (n + 1) Q) := by kernel_rfl

theorem xSpreadWheelSetk0 (m : Mem) (n : Nat) (Q : Value → Mem → Nat → Prop) (next_a : Option Addr) (next_l : Nat) (next_c : Nat) (w_1 : Option Addr) (ds : List Deferred) :
 xF (ev1 Try.prog xcfg 400) { fn := fSpreadWheelSet, nt := 179, slots := [(1, Value.slice next_a next_l next_c), (2, Value.pointer w_1)], todo := pt Try.prog fSpreadWheelSet [1, 0, 0], defers := ds } m n Q =
 (elimP w_1 False fun (k0 k1 : Nat) => ∃ (p2 : Option Addr), rd m k0 k1 = some (Value.pointer p2) ∧ Wc Try.prog fSpreadWheelvalid [Value.pointer p2] m n fun (v3 : Value) (m4 : Mem) (k5 : Nat) => ∃ (b6 : Bool), v3 = Value.bool b6 ∧ Later (bif !b6 then ∃ (l7 : List Nat), (ds = List.map collD l7 ∧ List.Pairwise (fun (x1 x2 : Nat) => x1 ≠ x2) l7 ∧ ∀ (k8 : Nat), List.Mem k8 l7 → Tr.get m4 k8 = some (AObj.deferred (some []))) ∧ memLet (clrAll l7 m4) fun (m9 : Mem) => Q (Value.int IntKind.i64 1) m9 k5 else W Try.prog { fn := fSpreadWheelSet, nt := 179, slots := [(1, Value.slice next_a next_l next_c), (2, Value.pointer w_1), (18, Value.slice next_a next_l next_c), (19, Value.int IntKind.i64 (↑next_l : Int)), (20, Value.int IntKind.i64 0)], todo := pt Try.prog fSpreadWheelSet [1, 1, 0, 1, 0, 0], defers := ds } m4 k5 Q)) := by kernel_rfl

theorem xSpreadWheelSetk1 (m : Mem) (n : Nat) (Q : Value → Mem → Nat → Prop) (next_a : Option Addr) (next_l : Nat) (next_c : Nat) (w_1 : Option Addr) (t19 : Int) (t20 : Int) (ds : List Deferred) :
 xF (evX Try.prog xcfg 400) { fn := fSpreadWheelSet, nt := 179, slots := [(1, Value.slice next_a next_l next_c), (2, Value.pointer w_1), (18, Value.slice next_a next_l next_c), (19, Value.int IntKind.i64 t19), (20, Value.int IntKind.i64 t20)], todo := pt Try.prog fSpreadWheelSet [1, 1, 0, 1, 0, 0], defers := ds } m n Q =
 (bif decide (t20 < t19) then
 elimA next_a False fun (k0 k1 : Nat) (p2 : Option Nat) =>
 (0 ≤ t20 ∧ t20 < (↑next_l : Int) ∧ liveAt m k0 = true ∧ (p2 ≠ none → 0 < next_c)) ∧
 ∃ (x3 : Int),
 rd m k0 (offOf k1 p2 + t20.toNat * 1) = some (Value.int IntKind.i64 x3) ∧
 bif decide (x3 < 0) then ∃ (l4 : List Nat), (ds = List.map collD l4 ∧ List.Pairwise (fun (x1 x2 : Nat) => x1 ≠ x2) l4 ∧ ∀ (k5 : Nat), List.Mem k5 l4 → Tr.get m k5 = some (AObj.deferred (some []))) ∧ memLet (clrAll l4 m) fun (m6 : Mem) => Q (Value.int IntKind.i64 2) m6 n
 else
 bif decide (x3 ≥ 128) then ∃ (l7 : List Nat), (ds = List.map collD l7 ∧ List.Pairwise (fun (x1 x2 : Nat) => x1 ≠ x2) l7 ∧ ∀ (k8 : Nat), List.Mem k8 l7 → Tr.get m k8 = some (AObj.deferred (some []))) ∧ memLet (clrAll l7 m) fun (m9 : Mem) => Q (Value.int IntKind.i64 2) m9 n
 else
 bif decide (t20 > 0) then
 elimA next_a False fun (k10 k11 : Nat) (p12 : Option Nat) =>
 (0 ≤ IntKind.i64.wrap (t20 - 1) ∧ IntKind.i64.wrap (t20 - 1) < (↑next_l : Int) ∧ liveAt m k10 = true ∧ (p12 ≠ none → 0 < next_c)) ∧ ∃ (x13 : Int), rd m k10 (offOf k11 p12 + (IntKind.i64.wrap (t20 - 1)).toNat * 1) = some (Value.int IntKind.i64 x13) ∧ bif decide (x3 ≤ x13) then ∃ (l14 : List Nat), (ds = List.map collD l14 ∧ List.Pairwise (fun (x1 x2 : Nat) => x1 ≠ x2) l14 ∧ ∀ (k15 : Nat), List.Mem k15 l14 → Tr.get m k15 = some (AObj.deferred (some []))) ∧ memLet (clrAll l14 m) fun (m16 : Mem) => Q (Value.int IntKind.i64 10) m16 n else W Try.prog { fn := fSpreadWheelSet, nt := 179, slots := [(1, Value.slice next_a next_l next_c), (2, Value.pointer w_1), (18, Value.slice next_a next_l next_c), (19, Value.int IntKind.i64 t19), (20, Value.int IntKind.i64 (IntKind.i64.wrap (t20 + 1)))], todo := pt Try.prog fSpreadWheelSet [1, 1, 0, 1, 0, 0], defers := ds } m n Q
 else W Try.prog { fn := fSpreadWheelSet, nt := 179, slots := [(1, Value.slice next_a next_l next_c), (2, Value.pointer w_1), (18, Value.slice next_a next_l next_c), (19, Value.int IntKind.i64 t19), (20, Value.int IntKind.i64 (IntKind.i64.wrap (t20 + 1)))], todo := pt Try.prog fSpreadWheelSet [1, 1, 0, 1, 0, 0], defers := ds } m n Q
 else
 elimP w_1 False fun (k17 k18 : Nat) =>
 ∃ (p19 : Option Addr),
 rd m k17 k18 = some (Value.pointer p19) ∧
 elimP p19 False fun (k20 k21 : Nat) =>
 isC m k20 = true ∧
 ∃ (p22 : Option Addr),
 rd m k20 (k21 + 0) = some (Value.pointer p22) ∧
 elimP p22 False fun (k23 k24 : Nat) =>
 isC m k23 = true ∧
 ∃ (p25 : Option Addr),
 ∃ (k26 : Nat),
 ∃ (k27 : Nat),
 rd m k23 (k24 + 1) = some (Value.slice p25 k26 k27) ∧
 bif decide ((↑next_l : Int) > (↑k26 : Int)) then ∃ (l28 : List Nat), (ds = List.map collD l28 ∧ List.Pairwise (fun (x1 x2 : Nat) => x1 ≠ x2) l28 ∧ ∀ (k29 : Nat), List.Mem k29 l28 → Tr.get m k29 = some (AObj.deferred (some []))) ∧ memLet (clrAll l28 m) fun (m30 : Mem) => Q (Value.int IntKind.i64 7) m30 n
 else
 elimP w_1 False fun (k31 k32 : Nat) =>
 ∃ (p33 : Option Addr),
 rd m k31 k32 = some (Value.pointer p33) ∧
 elimP p33 False fun (k34 k35 : Nat) =>
 isC m k34 = true ∧
 ∃ (p36 : Option Addr),
 rd m k34 (k35 + 0) = some (Value.pointer p36) ∧
 ∃ (p37 : Option Addr),
 ∃ (k38 : Nat),
 ∃ (k39 : Nat),
 ∃ (m40 : Mem),
 ∃ (k41 : Nat),
 (Wc Try.prog fSlicesCloneLintint [Value.slice next_a next_l next_c] m (n + 9) fun (v42 : Value) (m43 : Mem) (k44 : Nat) => v42 = Value.slice p37 k38 k39 ∧ m43 = m40 ∧ k44 = k41) ∧
 Later
 (elimP p36 False fun (k45 k46 : Nat) =>
 isC m40 k45 = true ∧
 ∃ (m47 : Mem),
 storeCs m40 k45 (k46 + 0) [Value.slice p37 k38 k39] = some m47 ∧
 (∃ (p48 : Option Addr), rd m40 k34 (k35 + 0) = some (Value.pointer p48) ∧ Value.pointer p48 = Value.pointer p36) ∧
 (isC m40 k34 = true ∧ Value.pointer (some { block := k34, off := k35 + 0 }) = Value.pointer (some { block := k34, off := k35 + 0 })) ∧
 (elimP w_1 False fun (k49 k50 : Nat) => ∃ (p51 : Option Addr), rd m40 k49 k50 = some (Value.pointer p51) ∧ Value.pointer p51 = Value.pointer p33) ∧
 n + 9 ≤ k41 ∧ n + 9 ≤ k41 ∧ elimP w_1 False fun (k52 k53 : Nat) => ∃ (p54 : Option Addr), rd m47 k52 k53 = some (Value.pointer p54) ∧ elimP p54 False fun (k55 k56 : Nat) => isC m47 k55 = true ∧ ∃ (p57 : Option Addr), rd m47 k55 (k56 + 0) = some (Value.pointer p57) ∧ elimP p57 False fun (k58 k59 : Nat) => isC m47 k58 = true ∧ ∃ (p60 : Option Addr), ∃ (k61 : Nat), ∃ (k62 : Nat), rd m47 k58 (k59 + 1) = some (Value.slice p60 k61 k62) ∧ W Try.prog { fn := fSpreadWheelSet, nt := 179, slots := [(1, Value.slice next_a next_l next_c), (2, Value.pointer w_1), (70, Value.slice p60 k61 k62), (71, Value.int IntKind.i64 (↑k61 : Int)), (72, Value.int IntKind.i64 0)], todo := pt Try.prog fSpreadWheelSet [1, 1, 1, 1, 1, 0, 1, 0, 0], defers := ds } m47 k41 Q)) := by kernel_rfl

theorem xSpreadWheelSetk2 (m : Mem) (n : Nat) (Q : Value → Mem → Nat → Prop) (next_a : Option Addr) (next_l : Nat) (next_c : Nat) (w_1 : Option Addr) (t70_a : Option Addr) (t70_l : Nat) (t70_c : Nat) (t71 : Int) (t72 : Int) (ds : List Deferred) :
 xF (evX Try.prog xcfg 400) { fn := fSpreadWheelSet, nt := 179, slots := [(1, Value.slice next_a next_l next_c), (2, Value.pointer w_1), (70, Value.slice t70_a t70_l t70_c), (71, Value.int IntKind.i64 t71), (72, Value.int IntKind.i64 t72)], todo := pt Try.prog fSpreadWheelSet [1, 1, 1, 1, 1, 0, 1, 0, 0], defers := ds } m n Q =
 (bif decide (t72 < t71) then
 elimA t70_a False fun (k0 k1 : Nat) (p2 : Option Nat) =>
 (0 ≤ t72 ∧ t72 < (↑t70_l : Int) ∧ liveAt m k0 = true ∧ (p2 ≠ none → 0 < t70_c)) ∧
 ∃ (x3 : Int),
 rd m k0 (offOf k1 p2 + t72.toNat * 1) = some (Value.int IntKind.i64 x3) ∧
 Wc Try.prog fSlicesContainsLintint [Value.slice next_a next_l next_c, Value.int IntKind.i64 x3] m n fun (v4 : Value) (m5 : Mem) (k6 : Nat) =>
 ∃ (b7 : Bool),
 v4 = Value.bool b7 ∧
 Later
 (bif !b7 then
 elimP w_1 False fun (k8 k9 : Nat) =>
 ∃ (p10 : Option Addr),
 rd m5 k8 k9 = some (Value.pointer p10) ∧
 elimP p10 False fun (k11 k12 : Nat) =>
 isC m5 k11 = true ∧ ∃ (p13 : Option Addr), rd m5 k11 (k12 + 0) = some (Value.pointer p13) ∧ elimP p13 False fun (k14 k15 : Nat) => isC m5 k14 = true ∧ ∃ (p16 : Option Addr), ∃ (k17 : Nat), ∃ (k18 : Nat), rd m5 k14 (k15 + 1) = some (Value.slice p16 k17 k18) ∧ elimA p16 False fun (k19 k20 : Nat) (p21 : Option Nat) => (0 ≤ t72 ∧ t72 < (↑k17 : Int) ∧ liveAt m5 k19 = true ∧ (p21 ≠ none → 0 < k18)) ∧ ∃ (m22 : Mem), storeCs m5 k19 (offOf k20 p21 + t72.toNat * 1) [Value.int IntKind.i64 (-1)] = some m22 ∧ W Try.prog { fn := fSpreadWheelSet, nt := 179, slots := [(1, Value.slice next_a next_l next_c), (2, Value.pointer w_1), (70, Value.slice t70_a t70_l t70_c), (71, Value.int IntKind.i64 t71), (72, Value.int IntKind.i64 (IntKind.i64.wrap (t72 + 1)))], todo := pt Try.prog fSpreadWheelSet [1, 1, 1, 1, 1, 0, 1, 0, 0], defers := ds } m22 k6 Q
 else W Try.prog { fn := fSpreadWheelSet, nt := 179, slots := [(1, Value.slice next_a next_l next_c), (2, Value.pointer w_1), (70, Value.slice t70_a t70_l t70_c), (71, Value.int IntKind.i64 t71), (72, Value.int IntKind.i64 (IntKind.i64.wrap (t72 + 1)))], todo := pt Try.prog fSpreadWheelSet [1, 1, 1, 1, 1, 0, 1, 0, 0], defers := ds } m5 k6 Q)
 else
 bif (↑next_l : Int) == 0 then ∃ (l23 : List Nat), (ds = List.map collD l23 ∧ List.Pairwise (fun (x1 x2 : Nat) => x1 ≠ x2) l23 ∧ ∀ (k24 : Nat), List.Mem k24 l23 → Tr.get m k24 = some (AObj.deferred (some []))) ∧ memLet (clrAll l23 m) fun (m25 : Mem) => Q (Value.int IntKind.i64 0) m25 n
 else elimP w_1 False fun (k26 k27 : Nat) => ∃ (p28 : Option Addr), rd m k26 k27 = some (Value.pointer p28) ∧ elimP p28 False fun (k29 k30 : Nat) => isC m k29 = true ∧ ∃ (p31 : Option Addr), rd m k29 (k30 + 0) = some (Value.pointer p31) ∧ elimP p31 False fun (k32 k33 : Nat) => isC m k32 = true ∧ ∃ (p34 : Option Addr), ∃ (k35 : Nat), ∃ (k36 : Nat), rd m k32 (k33 + 1) = some (Value.slice p34 k35 k36) ∧ W Try.prog { fn := fSpreadWheelSet, nt := 179, slots := [(2, Value.pointer w_1), (100, Value.slice p34 k35 k36), (101, Value.int IntKind.i64 (↑k35 : Int)), (102, Value.int IntKind.i64 0)], todo := pt Try.prog fSpreadWheelSet [1, 1, 1, 1, 1, 1, 1, 0, 1, 0, 0], defers := ds } m n Q) := by kernel_rfl

theorem xSpreadWheelSetk3 (m : Mem) (n : Nat) (Q : Value → Mem → Nat → Prop) (w_1 : Option Addr) (t100_a : Option Addr) (t100_l : Nat) (t100_c : Nat) (t101 : Int) (t102 : Int) (ds : List Deferred) :
 xF (evX Try.prog xcfg 400) { fn := fSpreadWheelSet, nt := 179, slots := [(2, Value.pointer w_1), (100, Value.slice t100_a t100_l t100_c), (101, Value.int IntKind.i64 t101), (102, Value.int IntKind.i64 t102)], todo := pt Try.prog fSpreadWheelSet [1, 1, 1, 1, 1, 1, 1, 0, 1, 0, 0], defers := ds } m n Q =
 (bif decide (t102 < t101) then
 elimA t100_a False fun (k0 k1 : Nat) (p2 : Option Nat) =>
 (0 ≤ t102 ∧ t102 < (↑t100_l : Int) ∧ liveAt m k0 = true ∧ (p2 ≠ none → 0 < t100_c)) ∧
 ∃ (x3 : Int),
 rd m k0 (offOf k1 p2 + t102.toNat * 1) = some (Value.int IntKind.i64 x3) ∧
 bif x3 == -1 then
 elimP w_1 False fun (k4 k5 : Nat) =>
 ∃ (p6 : Option Addr),
 rd m k4 k5 = some (Value.pointer p6) ∧
 elimP p6 False fun (k7 k8 : Nat) =>
 isC m k7 = true ∧
 ∃ (p9 : Option Addr),
 rd m k7 (k8 + 0) = some (Value.pointer p9) ∧
 elimP p9 False fun (k10 k11 : Nat) =>
 isC m k10 = true ∧
 ∃ (p12 : Option Addr),
 ∃ (k13 : Nat),
 ∃ (k14 : Nat),
 rd m k10 (k11 + 1) = some (Value.slice p12 k13 k14) ∧
 elimP w_1 False fun (k15 k16 : Nat) =>
 ∃ (p17 : Option Addr),
 rd m k15 k16 = some (Value.pointer p17) ∧
 elimP p17 False fun (k18 k19 : Nat) =>
 isC m k18 = true ∧
 ∃ (p20 : Option Addr),
 rd m k18 (k19 + 0) = some (Value.pointer p20) ∧
 ∃ (x21 : Int),
 ∃ (m22 : Mem),
 ∃ (k23 : Nat),
 (Wc Try.prog fSpreadstateleast [Value.pointer p20] m (n + 15) fun (v24 : Value) (m25 : Mem) (k26 : Nat) => v24 = Value.int IntKind.i64 x21 ∧ m25 = m22 ∧ k26 = k23) ∧
 Later
 (elimA p12 False fun (k27 k28 : Nat) (p29 : Option Nat) =>
 (0 ≤ t102 ∧ t102 < (↑k13 : Int) ∧ liveAt m22 k27 = true ∧ (p29 ≠ none → 0 < k14)) ∧
 ∃ (m30 : Mem),
 storeCs m22 k27 (offOf k28 p29 + t102.toNat * 1) [Value.int IntKind.i64 x21] = some m30 ∧
 (∃ (p31 : Option Addr), ∃ (k32 : Nat), ∃ (k33 : Nat), rd m22 k10 (k11 + 1) = some (Value.slice p31 k32 k33) ∧ Value.slice p31 k32 k33 = Value.slice p12 k13 k14) ∧
 (isC m22 k10 = true ∧ Value.pointer (some { block := k10, off := k11 + 1 }) = Value.pointer (some { block := k10, off := k11 + 1 })) ∧
 (∃ (p34 : Option Addr), rd m22 k7 (k8 + 0) = some (Value.pointer p34) ∧ Value.pointer p34 = Value.pointer p9) ∧ (isC m22 k7 = true ∧ Value.pointer (some { block := k7, off := k8 + 0 }) = Value.pointer (some { block := k7, off := k8 + 0 })) ∧ (elimP w_1 False fun (k35 k36 : Nat) => ∃ (p37 : Option Addr), rd m22 k35 k36 = some (Value.pointer p37) ∧ Value.pointer p37 = Value.pointer p6) ∧ n + 15 ≤ k23 ∧ n + 15 ≤ k23 ∧ W Try.prog { fn := fSpreadWheelSet, nt := 179, slots := [(2, Value.pointer w_1), (100, Value.slice t100_a t100_l t100_c), (101, Value.int IntKind.i64 t101), (102, Value.int IntKind.i64 (IntKind.i64.wrap (t102 + 1)))], todo := pt Try.prog fSpreadWheelSet [1, 1, 1, 1, 1, 1, 1, 0, 1, 0, 0], defers := ds } m30 k23 Q)
 else W Try.prog { fn := fSpreadWheelSet, nt := 179, slots := [(2, Value.pointer w_1), (100, Value.slice t100_a t100_l t100_c), (101, Value.int IntKind.i64 t101), (102, Value.int IntKind.i64 (IntKind.i64.wrap (t102 + 1)))], todo := pt Try.prog fSpreadWheelSet [1, 1, 1, 1, 1, 1, 1, 0, 1, 0, 0], defers := ds } m n Q
 else W Try.prog { fn := fSpreadWheelSet, nt := 179, slots := [(2, Value.pointer w_1)], todo := pt Try.prog fSpreadWheelSet [1, 1, 1, 1, 1, 1, 1, 1, 0, 0, 0], defers := ds } m n Q) := by kernel_rfl

theorem xSpreadWheelSetk4 (m : Mem) (n : Nat) (Q : Value → Mem → Nat → Prop) (w_1 : Option Addr) (ds : List Deferred) :
 xF (evX Try.prog xcfg 400) { fn := fSpreadWheelSet, nt := 179, slots := [(2, Value.pointer w_1)], todo := pt Try.prog fSpreadWheelSet [1, 1, 1, 1, 1, 1, 1, 1, 0, 0, 0], defers := ds } m n Q =
 (elimP w_1 False fun (k0 k1 : Nat) =>
 ∃ (p2 : Option Addr),
 rd m k0 k1 = some (Value.pointer p2) ∧
 elimP p2 False fun (k3 k4 : Nat) =>
 isC m k3 = true ∧
 ∃ (p5 : Option Addr),
 rd m k3 (k4 + 0) = some (Value.pointer p5) ∧
 elimP w_1 False fun (k6 k7 : Nat) =>
 ∃ (p8 : Option Addr),
 rd m k6 k7 = some (Value.pointer p8) ∧
 elimP p8 False fun (k9 k10 : Nat) =>
 isC m k9 = true ∧
 ∃ (p11 : Option Addr),
 rd m k9 (k10 + 0) = some (Value.pointer p11) ∧
 ∃ (x12 : Int),
 ∃ (m13 : Mem),
 ∃ (k14 : Nat),
 (Wc Try.prog fSpreadstatemost [Value.pointer p11] m (n + 22) fun (v15 : Value) (m16 : Mem) (k17 : Nat) => v15 = Value.int IntKind.i64 x12 ∧ m16 = m13 ∧ k17 = k14) ∧
 Later
 (∃ (x18 : Int),
 ∃ (m19 : Mem),
 ∃ (k20 : Nat),
 (Wc Try.prog fSpreadstateload [Value.pointer p5, Value.int IntKind.i64 x12] m13 k14 fun (v21 : Value) (m22 : Mem) (k23 : Nat) => v21 = Value.int IntKind.i64 x18 ∧ m22 = m19 ∧ k23 = k20) ∧
 Later
 (elimP w_1 False fun (k24 k25 : Nat) =>
 ∃ (p26 : Option Addr),
 rd m19 k24 k25 = some (Value.pointer p26) ∧
 elimP p26 False fun (k27 k28 : Nat) =>
 isC m19 k27 = true ∧
 ∃ (p29 : Option Addr),
 rd m19 k27 (k28 + 0) = some (Value.pointer p29) ∧
 elimP w_1 False fun (k30 k31 : Nat) =>
 ∃ (p32 : Option Addr),
 rd m19 k30 k31 = some (Value.pointer p32) ∧
 elimP p32 False fun (k33 k34 : Nat) =>
 isC m19 k33 = true ∧
 ∃ (p35 : Option Addr),
 rd m19 k33 (k34 + 0) = some (Value.pointer p35) ∧
 ∃ (x36 : Int),
 ∃ (m37 : Mem),
 ∃ (k38 : Nat),
 (Wc Try.prog fSpreadstateleast [Value.pointer p35] m19 k20 fun (v39 : Value) (m40 : Mem) (k41 : Nat) => v39 = Value.int IntKind.i64 x36 ∧ m40 = m37 ∧ k41 = k38) ∧
 Later
 (∃ (x42 : Int),
 ∃ (m43 : Mem),
 ∃ (k44 : Nat),
 (Wc Try.prog fSpreadstateload [Value.pointer p29, Value.int IntKind.i64 x36] m37 k38 fun (v45 : Value) (m46 : Mem) (k47 : Nat) => v45 = Value.int IntKind.i64 x42 ∧ m46 = m43 ∧ k47 = k44) ∧
 Later
 ((∃ (p48 : Option Addr), rd m k33 (k34 + 0) = some (Value.pointer p48) ∧ Value.pointer p48 = Value.pointer p35) ∧
 (∃ (p49 : Option Addr), rd m13 k33 (k34 + 0) = some (Value.pointer p49) ∧ Value.pointer p49 = Value.pointer p35) ∧
 (isC m k33 = true ∧ Value.pointer (some { block := k33, off := k34 + 0 }) = Value.pointer (some { block := k33, off := k34 + 0 })) ∧
 (isC m13 k33 = true ∧ Value.pointer (some { block := k33, off := k34 + 0 }) = Value.pointer (some { block := k33, off := k34 + 0 })) ∧
 (elimP w_1 False fun (k50 k51 : Nat) => ∃ (p52 : Option Addr), rd m k50 k51 = some (Value.pointer p52) ∧ Value.pointer p52 = Value.pointer p32) ∧
 (elimP w_1 False fun (k53 k54 : Nat) => ∃ (p55 : Option Addr), rd m13 k53 k54 = some (Value.pointer p55) ∧ Value.pointer p55 = Value.pointer p32) ∧
 (∃ (p56 : Option Addr), rd m k27 (k28 + 0) = some (Value.pointer p56) ∧ Value.pointer p56 = Value.pointer p29) ∧
 (∃ (p57 : Option Addr), rd m13 k27 (k28 + 0) = some (Value.pointer p57) ∧ Value.pointer p57 = Value.pointer p29) ∧
 (∃ (p58 : Option Addr), rd m37 k27 (k28 + 0) = some (Value.pointer p58) ∧ Value.pointer p58 = Value.pointer p29) ∧
 (isC m k27 = true ∧ Value.pointer (some { block := k27, off := k28 + 0 }) = Value.pointer (some { block := k27, off := k28 + 0 })) ∧
 (isC m13 k27 = true ∧ Value.pointer (some { block := k27, off := k28 + 0 }) = Value.pointer (some { block := k27, off := k28 + 0 })) ∧
 (isC m37 k27 = true ∧ Value.pointer (some { block := k27, off := k28 + 0 }) = Value.pointer (some { block := k27, off := k28 + 0 })) ∧
 (elimP w_1 False fun (k59 k60 : Nat) => ∃ (p61 : Option Addr), rd m k59 k60 = some (Value.pointer p61) ∧ Value.pointer p61 = Value.pointer p26) ∧
 (elimP w_1 False fun (k62 k63 : Nat) => ∃ (p64 : Option Addr), rd m13 k62 k63 = some (Value.pointer p64) ∧ Value.pointer p64 = Value.pointer p26) ∧
 (elimP w_1 False fun (k65 k66 : Nat) => ∃ (p67 : Option Addr), rd m37 k65 k66 = some (Value.pointer p67) ∧ Value.pointer p67 = Value.pointer p26) ∧
 (∃ (p68 : Option Addr), rd m13 k3 (k4 + 0) = some (Value.pointer p68) ∧ Value.pointer p68 = Value.pointer p5) ∧
 (isC m13 k3 = true ∧ Value.pointer (some { block := k3, off := k4 + 0 }) = Value.pointer (some { block := k3, off := k4 + 0 })) ∧
 (elimP w_1 False fun (k69 k70 : Nat) => ∃ (p71 : Option Addr), rd m13 k69 k70 = some (Value.pointer p71) ∧ Value.pointer p71 = Value.pointer p2) ∧
 n + 22 ≤ k14 ∧
 n + 22 ≤ k20 ∧
 n + 22 ≤ k38 ∧
 n + 22 ≤ k44 ∧
 bif decide (IntKind.i64.wrap (x18 - x42) > 1) then
 elimP w_1 False fun (k72 k73 : Nat) =>
 ∃ (p74 : Option Addr),
 rd m43 k72 k73 = some (Value.pointer p74) ∧
 elimP p74 False fun (k75 k76 : Nat) =>
 isC m43 k75 = true ∧
 ∃ (p77 : Option Addr),
 rd m43 k75 (k76 + 0) = some (Value.pointer p77) ∧
 ∃ (x78 : Int),
 ∃ (m79 : Mem),
 ∃ (k80 : Nat),
 (Wc Try.prog fSpreadstatemost [Value.pointer p77] m43 (k44 + 14) fun (v81 : Value) (m82 : Mem) (k83 : Nat) => v81 = Value.int IntKind.i64 x78 ∧ m82 = m79 ∧ k83 = k80) ∧
 Later
 (elimP w_1 False fun (k84 k85 : Nat) =>
 ∃ (p86 : Option Addr),
 rd m79 k84 k85 = some (Value.pointer p86) ∧
 elimP p86 False fun (k87 k88 : Nat) =>
 isC m79 k87 = true ∧
 ∃ (p89 : Option Addr),
 rd m79 k87 (k88 + 0) = some (Value.pointer p89) ∧
 ∃ (x90 : Int),
 ∃ (m91 : Mem),
 ∃ (k92 : Nat),
 (Wc Try.prog fSpreadstateleast [Value.pointer p89] m79 k80 fun (v93 : Value) (m94 : Mem) (k95 : Nat) => v93 = Value.int IntKind.i64 x90 ∧ m94 = m91 ∧ k95 = k92) ∧
 Later
 (memLet ((Tr.set m91 (k44 + 10) (AObj.cells none tInt 1 [Value.int IntKind.i64 0])).set (k44 + 11) (AObj.cells none tInt 1 [Value.int IntKind.i64 0])) fun (m96 : Mem) =>
 ∃ (m97 : Mem),
 storeCs m96 (k44 + 10) 0 [Value.int IntKind.i64 x78] = some m97 ∧
 ∃ (m98 : Mem),
 storeCs m97 (k44 + 11) 0 [Value.int IntKind.i64 x90] = some m98 ∧
 (∃ (p99 : Option Addr), rd m43 k87 (k88 + 0) = some (Value.pointer p99) ∧ Value.pointer p99 = Value.pointer p89) ∧
 (isC m43 k87 = true ∧ Value.pointer (some { block := k87, off := k88 + 0 }) = Value.pointer (some { block := k87, off := k88 + 0 })) ∧
 (elimP w_1 False fun (k100 k101 : Nat) => ∃ (p102 : Option Addr), rd m43 k100 k101 = some (Value.pointer p102) ∧ Value.pointer p102 = Value.pointer p86) ∧
 k44 + 14 ≤ k80 ∧
 k44 + 14 ≤ k92 ∧
 k44 + 14 ≤ k92 ∧
 k44 + 14 ≤ k92 ∧
 Tr.get m79 (k44 + 10) = none ∧
 Tr.get m79 (k44 + 11) = none ∧
 Tr.get m91 (k44 + 10) = none ∧
 Tr.get m91 (k44 + 11) = none ∧
 elimP w_1 False fun (k103 k104 : Nat) =>
 ∃ (p105 : Option Addr),
 rd m98 k103 k104 = some (Value.pointer p105) ∧
 elimP p105 False fun (k106 k107 : Nat) =>
 isC m98 k106 = true ∧
 ∃ (p108 : Option Addr),
 rd m98 k106 (k107 + 0) = some (Value.pointer p108) ∧
 elimP p108 False fun (k109 k110 : Nat) =>
 isC m98 k109 = true ∧
 ∃ (p111 : Option Addr),
 ∃ (k112 : Nat),
 ∃ (k113 : Nat),
 rd m98 k109 (k110 + 1) = some (Value.slice p111 k112 k113) ∧
 Wc Try.prog fSlicesBackwardLintint [Value.slice p111 k112 k113] m98 k92 fun (v114 : Value) (m115 : Mem) (k116 : Nat) =>
 ∃ (y117 : FuncId),
 ∃ (l118 : List Value),
 ∃ (l119 : List Value),
 v114 = Value.func (Fn.func y117) { toList := l118 } { toList := l119 } ∧
 Later
 (memLet ((Tr.set m115 k116 (AObj.deferred (some []))).set (k116 + 1) (loopO fSpreadWheelSet 179 [(2, Value.pointer w_1), (11, Value.pointer (some { block := k44 + 10, off := 0 })), (12, Value.pointer (some { block := k44 + 11, off := 0 })), (163, Value.func (Fn.func y117) { toList := l118 } { toList := l119 })] LoopState.ready none (pt Try.prog fSpreadWheelSet [1, 1, 1, 1, 1, 1, 1, 1, 0, 0, 0, 1, 0, 1, 1, 0]) k116)) fun (m120 : Mem) =>
 Wc Try.prog y117 (l118 ++ [Value.func (Fn.yield (k116 + 1)) { toList := [] } { toList := [] }] ++ l119) m120 (k116 + 2) fun (v121 : Value) (m122 : Mem) (k123 : Nat) =>
 ∃ (y124 : LoopState),
 ∃ (p125 : Option Code),
 Tr.get m122 (k116 + 1) = some (loopO fSpreadWheelSet 179 [(2, Value.pointer w_1), (11, Value.pointer (some { block := k44 + 10, off := 0 })), (12, Value.pointer (some { block := k44 + 11, off := 0 })), (163, Value.func (Fn.func y117) { toList := l118 } { toList := l119 })] y124 p125 (pt Try.prog fSpreadWheelSet [1, 1, 1, 1, 1, 1, 1, 1, 0, 0, 0, 1, 0, 1, 1, 0]) k116) ∧
 isBusy y124 = false ∧
 Later
 (memLet (Tr.set m122 (k116 + 1) (loopO fSpreadWheelSet 179 [(2, Value.pointer w_1), (11, Value.pointer (some { block := k44 + 10, off := 0 })), (12, Value.pointer (some { block := k44 + 11, off := 0 })), (163, Value.func (Fn.func y117) { toList := l118 } { toList := l119 })] LoopState.exhausted p125 (pt Try.prog fSpreadWheelSet [1, 1, 1, 1, 1, 1, 1, 1, 0, 0, 0, 1, 0, 1, 1, 0]) k116)) fun (m126 : Mem) =>
 elimJ p125 (W Try.prog { fn := fSpreadWheelSet, nt := 179, slots := [(2, Value.pointer w_1)], todo := pt Try.prog fSpreadWheelSet [1, 1, 1, 1, 1, 1, 1, 1, 0, 0, 0], defers := { target := Target.collected k116, args := { toList := [] } } :: ds } m126 k123 Q) (∃ (l127 : List Nat), ({ target := Target.collected k116, args := { toList := [] } } :: ds = List.map collD l127 ∧ List.Pairwise (fun (x1 x2 : Nat) => x1 ≠ x2) l127 ∧ ∀ (k128 : Nat), List.Mem k128 l127 → Tr.get m126 k128 = some (AObj.deferred (some []))) ∧ False) fun (y130 : Code) =>
 y130 = Code.exit 9 ∧ W Try.prog { fn := fSpreadWheelSet, nt := 179, slots := [(2, Value.pointer w_1)], todo := pt Try.prog fSpreadWheelSet [1, 1, 1, 1, 1, 1, 1, 1, 0, 0, 0], defers := { target := Target.collected k116, args := { toList := [] } } :: ds } m126 k123 Q ∨ False))))
 else ∃ (l131 : List Nat), (ds = List.map collD l131 ∧ List.Pairwise (fun (x1 x2 : Nat) => x1 ≠ x2) l131 ∧ ∀ (k132 : Nat), List.Mem k132 l131 → Tr.get m43 k132 = some (AObj.deferred (some []))) ∧ memLet (clrAll l131 m43) fun (m133 : Mem) => Q (Value.int IntKind.i64 0) m133 k44))))) := by kernel_rfl

theorem xSpreadWheelSetr5 (m : Mem) (n : Nat) (Q : Value → Mem → Nat → Prop) (w_1 : Option Addr) (from' : Nat) (to : Nat) (t163 : Value) (Y : Nat) (t164v : Int) (t165v : Int) :
 xF (evX Try.prog xcfg 400) (roundF fSpreadWheelSet 179 [(2, Value.pointer w_1), (11, Value.pointer (some { block := from', off := 0 })), (12, Value.pointer (some { block := to, off := 0 })), (163, t163)] (pt Try.prog fSpreadWheelSet [1, 1, 1, 1, 1, 1, 1, 1, 0, 0, 0, 1, 0, 1, 1, 0]) [Value.int IntKind.i64 t164v, Value.int IntKind.i64 t165v] Y) m n Q =
 (∃ (y0 : AObj),
 Tr.get m Y = some y0 ∧
 lpReady y0 = true ∧
 memLet (Tr.set m Y (lpBusy y0)) fun (m1 : Mem) =>
 ∃ (x2 : Int),
 rd m1 from' 0 = some (Value.int IntKind.i64 x2) ∧
 bif t165v == x2 then
 elimP w_1 False fun (k3 k4 : Nat) =>
 ∃ (p5 : Option Addr), rd m1 k3 k4 = some (Value.pointer p5) ∧ elimP p5 False fun (k6 k7 : Nat) => isC m1 k6 = true ∧ ∃ (p8 : Option Addr), rd m1 k6 (k7 + 0) = some (Value.pointer p8) ∧ elimP p8 False fun (k9 k10 : Nat) => isC m1 k9 = true ∧ ∃ (p11 : Option Addr), ∃ (k12 : Nat), ∃ (k13 : Nat), rd m1 k9 (k10 + 1) = some (Value.slice p11 k12 k13) ∧ ∃ (x14 : Int), rd m1 to 0 = some (Value.int IntKind.i64 x14) ∧ elimA p11 False fun (k15 k16 : Nat) (p17 : Option Nat) => (0 ≤ t164v ∧ t164v < (↑k12 : Int) ∧ liveAt m1 k15 = true ∧ (p17 ≠ none → 0 < k13)) ∧ ∃ (m18 : Mem), storeCs m1 k15 (offOf k16 p17 + t164v.toNat * 1) [Value.int IntKind.i64 x14] = some m18 ∧ n + 11 ≤ n + 11 ∧ ∃ (y19 : AObj), Tr.get m18 Y = some y19 ∧ isLp y19 = true ∧ memLet (Tr.set m18 Y (lpSet y19 LoopState.done (some (Code.exit 9)))) fun (m20 : Mem) => Q (Value.bool false) m20 (n + 11)
 else ∃ (y21 : AObj), Tr.get m1 Y = some y21 ∧ isLp y21 = true ∧ memLet (Tr.set m1 Y (lpSet y21 LoopState.ready none)) fun (m22 : Mem) => Q (Value.bool true) m22 n) := by kernel_rfl

/- 15 leafmesh/leafmeshlaw11.sets -/
theorem xLaw11sets (m : Mem) (n : Nat) (Q : Value → Mem → Nat → Prop) (w : Nat) (next_a : Option Addr) (next_l : Nat) (next_c : Nat) (buckets_a : Option Addr) (buckets_l : Nat) (buckets_c : Nat) :
 Xc Try.prog xcfg 400 fLaw11sets [Value.pointer (some { block := w, off := 0 }), Value.slice next_a next_l next_c, Value.slice buckets_a buckets_l buckets_c] m n Q =
 (Wc Try.prog fSpreadWheelSet [Value.pointer (some { block := w, off := 0 }), Value.slice next_a next_l next_c] m n fun (v0 : Value) (m1 : Mem) (k2 : Nat) => ∃ (x3 : Int), v0 = Value.int IntKind.i64 x3 ∧ Later (bif x3 == 0 then Wc Try.prog fSpreadWheelBuckets [Value.pointer (some { block := w, off := 0 })] m1 k2 fun (v4 : Value) (m5 : Mem) (k6 : Nat) => ∃ (p7 : Option Addr), ∃ (k8 : Nat), ∃ (k9 : Nat), v4 = Value.slice p7 k8 k9 ∧ Later (Wc Try.prog fKitSameint [Value.slice p7 k8 k9, Value.slice buckets_a buckets_l buckets_c] m5 k6 fun (v10 : Value) (m11 : Mem) (k12 : Nat) => ∃ (b13 : Bool), v10 = Value.bool b13 ∧ Later (Q (Value.bool b13) m11 k12)) else Q (Value.bool false) m1 k2)) := by kernel_rfl

/- 16 (*leafmesh/spread.Wheel).Members -/
theorem xSpreadWheelMembers (m : Mem) (n : Nat) (Q : Value → Mem → Nat → Prop) (w : Nat) :
 Xc Try.prog xcfg 400 fSpreadWheelMembers [Value.pointer (some { block := w, off := 0 })] m n Q =
 (Wc Try.prog fSpreadWheelvalid [Value.pointer (some { block := w, off := 0 })] m n fun (v0 : Value) (m1 : Mem) (k2 : Nat) => ∃ (b3 : Bool), v0 = Value.bool b3 ∧ Later (bif !b3 then Q (Value.slice none 0 0) m1 k2 else isC m1 w = true ∧ ∃ (p4 : Option Addr), rd m1 w 0 = some (Value.pointer p4) ∧ elimP p4 False fun (k5 k6 : Nat) => isC m1 k5 = true ∧ ∃ (p7 : Option Addr), ∃ (k8 : Nat), ∃ (k9 : Nat), rd m1 k5 (k6 + 0) = some (Value.slice p7 k8 k9) ∧ Wc Try.prog fSlicesCloneLintint [Value.slice p7 k8 k9] m1 k2 fun (v10 : Value) (m11 : Mem) (k12 : Nat) => ∃ (p13 : Option Addr), ∃ (k14 : Nat), ∃ (k15 : Nat), v10 = Value.slice p13 k14 k15 ∧ Later (Q (Value.slice p13 k14 k15) m11 k12))) := by kernel_rfl

/- 17 leafmesh/leafmeshlaw11.awake -/
theorem xLaw11awake (m : Mem) (n : Nat) (Q : Value → Mem → Nat → Prop) :
 Xc Try.prog xcfg 400 fLaw11awake [] m n Q =
 (Wc Try.prog fSpreadNew [Value.int IntKind.i64 6] m n fun (v0 : Value) (m1 : Mem) (k2 : Nat) =>
 ∃ (p3 : Option Addr),
 ∃ (x4 : Int),
 v0 = Value.tuple { toList := [Value.pointer p3, Value.int IntKind.i64 x4] } ∧
 Later
 (bif x4 != 0 then Q (Value.bool false) m1 k2
 else
 bif p3.isNone then Q (Value.bool false) m1 k2
 else
 memLet (Tr.set m1 k2 (AObj.cells none tInt 1 [Value.int IntKind.i64 4, Value.int IntKind.i64 9])) fun (m5 : Mem) =>
 memLet (Tr.set m5 (k2 + 1) (AObj.cells none tInt 1 [Value.int IntKind.i64 4, Value.int IntKind.i64 9, Value.int IntKind.i64 4, Value.int IntKind.i64 9, Value.int IntKind.i64 4, Value.int IntKind.i64 9])) fun (m6 : Mem) =>
 Wc Try.prog fLaw11sets [Value.pointer p3, Value.slice (some { block := k2, off := 0 }) 2 2, Value.slice (some { block := k2 + 1, off := 0 }) 6 6] m6 (k2 + 1 + 1) fun (v7 : Value) (m8 : Mem) (k9 : Nat) =>
 ∃ (b10 : Bool),
 v7 = Value.bool b10 ∧
 Later
 (bif !b10 then Q (Value.bool false) m8 k9
 else
 memLet (Tr.set m8 k9 (AObj.cells none tInt 1 [Value.int IntKind.i64 2, Value.int IntKind.i64 4, Value.int IntKind.i64 9])) fun (m11 : Mem) =>
 memLet (Tr.set m11 (k9 + 1) (AObj.cells none tInt 1 [Value.int IntKind.i64 4, Value.int IntKind.i64 9, Value.int IntKind.i64 4, Value.int IntKind.i64 9, Value.int IntKind.i64 2, Value.int IntKind.i64 2])) fun (m12 : Mem) =>
 Wc Try.prog fLaw11sets [Value.pointer p3, Value.slice (some { block := k9, off := 0 }) 3 3, Value.slice (some { block := k9 + 1, off := 0 }) 6 6] m12 (k9 + 1 + 1) fun (v13 : Value) (m14 : Mem) (k15 : Nat) => ∃ (b16 : Bool), v13 = Value.bool b16 ∧ Later (bif !b16 then Q (Value.bool false) m14 k15 else Wc Try.prog fSpreadWheelPick [Value.pointer p3, Value.int IntKind.u64 7] m14 k15 fun (v17 : Value) (m18 : Mem) (k19 : Nat) => ∃ (x20 : Int), ∃ (b21 : Bool), v17 = Value.tuple { toList := [Value.int IntKind.i64 x20, Value.bool b21] } ∧ Later (bif x20 == 9 then bif b21 then Wc Try.prog fSpreadWheelLoad [Value.pointer p3, Value.int IntKind.i64 2] m18 k19 fun (v22 : Value) (m23 : Mem) (k24 : Nat) => ∃ (x25 : Int), v22 = Value.int IntKind.i64 x25 ∧ Later (Q (Value.bool (x25 == 2)) m23 k24) else Q (Value.bool false) m18 k19 else Q (Value.bool false) m18 k19))))) := by kernel_rfl

/- 18 leafmesh/leafmeshlaw11.short -/
theorem xLaw11short (m : Mem) (n : Nat) (Q : Value → Mem → Nat → Prop) (l_a : Option Addr) (l_l : Nat) (l_c : Nat) :
 Xc Try.prog xcfg 400 fLaw11short [Value.slice l_a l_l l_c] m n Q =
 (W Try.prog { fn := fLaw11short, nt := 19, slots := [(0, Value.slice l_a l_l l_c), (3, Value.int IntKind.i64 0)], todo := pt Try.prog fLaw11short [1, 0, 1, 0, 0] } m n Q) := by kernel_rfl

theorem xLaw11shortk0 (m : Mem) (n : Nat) (Q : Value → Mem → Nat → Prop) (l_a : Option Addr) (l_l : Nat) (l_c : Nat) (i : Int) :
 xF (evX Try.prog xcfg 400) { fn := fLaw11short, nt := 19, slots := [(0, Value.slice l_a l_l l_c), (3, Value.int IntKind.i64 i)], todo := pt Try.prog fLaw11short [1, 0, 1, 0, 0] } m n Q =
 (bif decide (i < (↑l_l : Int)) then elimA l_a False fun (k0 k1 : Nat) (p2 : Option Nat) => (0 ≤ i ∧ i < (↑l_l : Int) ∧ liveAt m k0 = true ∧ (p2 ≠ none → 0 < l_c)) ∧ ∃ (p3 : Option Addr), ∃ (k4 : Nat), ∃ (k5 : Nat), rd m k0 (offOf k1 p2 + i.toNat * 1) = some (Value.slice p3 k4 k5) ∧ bif decide ((↑k4 : Int) > 64) then Q (Value.bool false) m n else W Try.prog { fn := fLaw11short, nt := 19, slots := [(0, Value.slice l_a l_l l_c), (3, Value.int IntKind.i64 (IntKind.i64.wrap (i + 1)))], todo := pt Try.prog fLaw11short [1, 0, 1, 0, 0] } m n Q else Q (Value.bool (decide ((↑l_l : Int) ≤ 8))) m n) := by kernel_rfl

/- 19 leafmesh/leafmeshlaw11.wheel -/
theorem xLaw11wheel (m : Mem) (n : Nat) (Q : Value → Mem → Nat → Prop) (buckets : Int) (l_a : Option Addr) (l_l : Nat) (l_c : Nat) :
 Xc Try.prog xcfg 400 fLaw11wheel [Value.int IntKind.i64 buckets, Value.slice l_a l_l l_c] m n Q =
 (Wc Try.prog fKitPick [Value.int IntKind.i64 buckets, Value.int IntKind.i64 64] m n fun (v0 : Value) (m1 : Mem) (k2 : Nat) => ∃ (x3 : Int), v0 = Value.int IntKind.i64 x3 ∧ Later (Wc Try.prog fSpreadNew [Value.int IntKind.i64 (IntKind.i64.wrap (1 + x3))] m1 k2 fun (v4 : Value) (m5 : Mem) (k6 : Nat) => ∃ (p7 : Option Addr), ∃ (x8 : Int), v4 = Value.tuple { toList := [Value.pointer p7, Value.int IntKind.i64 x8] } ∧ Later (bif x8 != 0 then Q (Value.pointer none) m5 k6 else bif p7.isNone then Q (Value.pointer none) m5 k6 else W Try.prog { fn := fLaw11wheel, nt := 39, slots := [(0, Value.int IntKind.i64 buckets), (1, Value.slice l_a l_l l_c), (5, Value.pointer p7), (7, Value.int IntKind.i64 0)], todo := pt Try.prog fLaw11wheel [1, 1, 1, 0, 1, 0, 0] } m5 k6 Q))) := by kernel_rfl

theorem xLaw11wheelk0 (m : Mem) (n : Nat) (Q : Value → Mem → Nat → Prop) (buckets : Int) (l_a : Option Addr) (l_l : Nat) (l_c : Nat) (w : Option Addr) (i : Int) :
 xF (evX Try.prog xcfg 400) { fn := fLaw11wheel, nt := 39, slots := [(0, Value.int IntKind.i64 buckets), (1, Value.slice l_a l_l l_c), (5, Value.pointer w), (7, Value.int IntKind.i64 i)], todo := pt Try.prog fLaw11wheel [1, 1, 1, 0, 1, 0, 0] } m n Q =
 (bif decide (i < (↑l_l : Int)) then
 elimA l_a False fun (k0 k1 : Nat) (p2 : Option Nat) =>
 (0 ≤ i ∧ i < (↑l_l : Int) ∧ liveAt m k0 = true ∧ (p2 ≠ none → 0 < l_c)) ∧
 ∃ (p3 : Option Addr),
 ∃ (k4 : Nat),
 ∃ (k5 : Nat),
 rd m k0 (offOf k1 p2 + i.toNat * 1) = some (Value.slice p3 k4 k5) ∧
 ∃ (x6 : Int),
 ∃ (m7 : Mem),
 ∃ (k8 : Nat),
 (Wc Try.prog fKitPick [Value.int IntKind.i64 buckets, Value.int IntKind.i64 64] m (n + 11) fun (v9 : Value) (m10 : Mem) (k11 : Nat) => v9 = Value.int IntKind.i64 x6 ∧ m10 = m7 ∧ k11 = k8) ∧
 Later
 (∃ (p12 : Option Addr),
 ∃ (k13 : Nat),
 ∃ (k14 : Nat),
 ∃ (m15 : Mem),
 ∃ (k16 : Nat),
 (Wc Try.prog fLaw11members [Value.slice p3 k4 k5, Value.int IntKind.i64 (IntKind.i64.wrap (1 + x6))] m7 k8 fun (v17 : Value) (m18 : Mem) (k19 : Nat) => v17 = Value.slice p12 k13 k14 ∧ m18 = m15 ∧ k19 = k16) ∧
 Later
 (∃ (x20 : Int),
 ∃ (m21 : Mem),
 ∃ (k22 : Nat),
 (Wc Try.prog fSpreadWheelSet [Value.pointer w, Value.slice p12 k13 k14] m15 k16 fun (v23 : Value) (m24 : Mem) (k25 : Nat) => v23 = Value.int IntKind.i64 x20 ∧ m24 = m21 ∧ k25 = k22) ∧
 Later ((∃ (p26 : Option Addr), ∃ (k27 : Nat), ∃ (k28 : Nat), rd m7 k0 (offOf k1 p2 + i.toNat * 1) = some (Value.slice p26 k27 k28) ∧ Value.slice p26 k27 k28 = Value.slice p3 k4 k5) ∧ (elimA l_a False fun (k29 k30 : Nat) (p31 : Option Nat) => (0 ≤ i ∧ i < (↑l_l : Int) ∧ liveAt m7 k29 = true ∧ (p31 ≠ none → 0 < l_c)) ∧ Value.pointer (some { block := k29, off := offOf k30 p31 + i.toNat * 1 }) = Value.pointer (some { block := k0, off := offOf k1 p2 + i.toNat * 1 })) ∧ n + 11 ≤ k8 ∧ n + 11 ≤ k16 ∧ n + 11 ≤ k22 ∧ bif x20 != 0 then Q (Value.pointer none) m21 k22 else W Try.prog { fn := fLaw11wheel, nt := 39, slots := [(0, Value.int IntKind.i64 buckets), (1, Value.slice l_a l_l l_c), (5, Value.pointer w), (7, Value.int IntKind.i64 (IntKind.i64.wrap (i + 1)))], todo := pt Try.prog fLaw11wheel [1, 1, 1, 0, 1, 0, 0] } m21 k22 Q)))
 else Q (Value.pointer w) m n) := by kernel_rfl

/- 20 (*leafmesh/spread.Wheel).Load -/
theorem xSpreadWheelLoad (m : Mem) (n : Nat) (Q : Value → Mem → Nat → Prop) (w : Nat) (member : Int) :
 Xc Try.prog xcfg 400 fSpreadWheelLoad [Value.pointer (some { block := w, off := 0 }), Value.int IntKind.i64 member] m n Q =
 (Wc Try.prog fSpreadWheelvalid [Value.pointer (some { block := w, off := 0 })] m n fun (v0 : Value) (m1 : Mem) (k2 : Nat) => ∃ (b3 : Bool), v0 = Value.bool b3 ∧ Later (bif !b3 then Q (Value.int IntKind.i64 0) m1 k2 else bif decide (member < 0) then Q (Value.int IntKind.i64 0) m1 k2 else isC m1 w = true ∧ ∃ (p4 : Option Addr), rd m1 w 0 = some (Value.pointer p4) ∧ Wc Try.prog fSpreadstateload [Value.pointer p4, Value.int IntKind.i64 member] m1 k2 fun (v5 : Value) (m6 : Mem) (k7 : Nat) => ∃ (x8 : Int), v5 = Value.int IntKind.i64 x8 ∧ Later (Q (Value.int IntKind.i64 x8) m6 k7))) := by kernel_rfl

/- 21 leafmesh/leafmeshkit.Has[int] -/
theorem xKitHasint (m : Mem) (n : Nat) (Q : Value → Mem → Nat → Prop) (l_a : Option Addr) (l_l : Nat) (l_c : Nat) (x : Int) :
 Xc Try.prog xcfg 400 fKitHasint [Value.slice l_a l_l l_c, Value.int IntKind.i64 x] m n Q =
 (W Try.prog { fn := fKitHasint, nt := 18, slots := [(0, Value.slice l_a l_l l_c), (1, Value.int IntKind.i64 x), (5, Value.int IntKind.i64 0)], todo := pt Try.prog fKitHasint [1, 0, 1, 0, 0] } m n Q) := by kernel_rfl

theorem xKitHasintk0 (m : Mem) (n : Nat) (Q : Value → Mem → Nat → Prop) (l_a : Option Addr) (l_l : Nat) (l_c : Nat) (x : Int) (i : Int) :
 xF (evX Try.prog xcfg 400) { fn := fKitHasint, nt := 18, slots := [(0, Value.slice l_a l_l l_c), (1, Value.int IntKind.i64 x), (5, Value.int IntKind.i64 i)], todo := pt Try.prog fKitHasint [1, 0, 1, 0, 0] } m n Q =
 (bif decide (i < (↑l_l : Int)) then elimA l_a False fun (k0 k1 : Nat) (p2 : Option Nat) => (0 ≤ i ∧ i < (↑l_l : Int) ∧ liveAt m k0 = true ∧ (p2 ≠ none → 0 < l_c)) ∧ ∃ (x3 : Int), rd m k0 (offOf k1 p2 + i.toNat * 1) = some (Value.int IntKind.i64 x3) ∧ bif x3 == x then Q (Value.bool true) m n else W Try.prog { fn := fKitHasint, nt := 18, slots := [(0, Value.slice l_a l_l l_c), (1, Value.int IntKind.i64 x), (5, Value.int IntKind.i64 (IntKind.i64.wrap (i + 1)))], todo := pt Try.prog fKitHasint [1, 0, 1, 0, 0] } m n Q else Q (Value.bool false) m n) := by kernel_rfl

/- 22 leafmesh/leafmeshkit.Pick -/
theorem xKitPick (m : Mem) (n : Nat) (Q : Value → Mem → Nat → Prop) (x : Int) (n' : Int) :
 Xc Try.prog xcfg 400 fKitPick [Value.int IntKind.i64 x, Value.int IntKind.i64 n'] m n Q =
 (n' ≠ 0 ∧ bif decide (x.tmod n' < 0) then Q (Value.int IntKind.i64 (IntKind.i64.wrap (x.tmod n' + n'))) m n else Q (Value.int IntKind.i64 (x.tmod n')) m n) := by kernel_rfl

/- 23 leafmesh/leafmeshlaw11.members -/
theorem xLaw11members (m : Mem) (n : Nat) (Q : Value → Mem → Nat → Prop) (l_a : Option Addr) (l_l : Nat) (l_c : Nat) (most : Int) :
 Xc Try.prog xcfg 400 fLaw11members [Value.slice l_a l_l l_c, Value.int IntKind.i64 most] m n Q =
 (W Try.prog { fn := fLaw11members, nt := 36, slots := [(0, Value.slice l_a l_l l_c), (1, Value.int IntKind.i64 most), (5, Value.slice none 0 0), (6, Value.int IntKind.i64 0)], todo := pt Try.prog fLaw11members [1, 1, 0, 1, 0, 0] } m n Q) := by kernel_rfl

theorem xLaw11membersk0 (m : Mem) (n : Nat) (Q : Value → Mem → Nat → Prop) (l_a : Option Addr) (l_l : Nat) (l_c : Nat) (most : Int) (out'_a : Option Addr) (out'_l : Nat) (out'_c : Nat) (n' : Int) :
 xF (evX Try.prog xcfg 400) { fn := fLaw11members, nt := 36, slots := [(0, Value.slice l_a l_l l_c), (1, Value.int IntKind.i64 most), (5, Value.slice out'_a out'_l out'_c), (6, Value.int IntKind.i64 n')], todo := pt Try.prog fLaw11members [1, 1, 0, 1, 0, 0] } m n Q =
 (bif decide (n' < 128) then bif decide ((↑out'_l : Int) < most) then W Try.prog { fn := fLaw11members, nt := 36, slots := [(0, Value.slice l_a l_l l_c), (1, Value.int IntKind.i64 most), (5, Value.slice out'_a out'_l out'_c), (6, Value.int IntKind.i64 n'), (7, Value.int IntKind.i64 0)], todo := pt Try.prog fLaw11members [1, 1, 0, 1, 0, 0, 1, 0, 0, 1, 0, 0] } m n Q else Q (Value.slice out'_a out'_l out'_c) m n else Q (Value.slice out'_a out'_l out'_c) m n) := by kernel_rfl

theorem xLaw11membersk1 (m : Mem) (n : Nat) (Q : Value → Mem → Nat → Prop) (l_a : Option Addr) (l_l : Nat) (l_c : Nat) (most : Int) (n' : Int) (out'_a_1 : Option Addr) (out'_l_1 : Nat) (out'_c_1 : Nat) (i : Int) :
 xF (evX Try.prog xcfg 400) { fn := fLaw11members, nt := 36, slots := [(0, Value.slice l_a l_l l_c), (1, Value.int IntKind.i64 most), (5, Value.slice out'_a_1 out'_l_1 out'_c_1), (6, Value.int IntKind.i64 n'), (7, Value.int IntKind.i64 i)], todo := pt Try.prog fLaw11members [1, 1, 0, 1, 0, 0, 1, 0, 0, 1, 0, 0] } m n Q =
 (bif decide (i < (↑l_l : Int)) then
 elimA l_a False fun (k0 k1 : Nat) (p2 : Option Nat) =>
 (0 ≤ i ∧ i < (↑l_l : Int) ∧ liveAt m k0 = true ∧ (p2 ≠ none → 0 < l_c)) ∧
 ∃ (x3 : Int),
 rd m k0 (offOf k1 p2 + i.toNat * 1) = some (Value.int IntKind.i64 x3) ∧
 Wc Try.prog fKitPick [Value.int IntKind.i64 x3, Value.int IntKind.i64 128] m n fun (v4 : Value) (m5 : Mem) (k6 : Nat) =>
 ∃ (x7 : Int),
 v4 = Value.int IntKind.i64 x7 ∧
 Later
 (bif x7 == n' then memLet (Tr.set m5 k6 (AObj.cells none tInt 1 [Value.int IntKind.i64 n'])) fun (m8 : Mem) => ∃ (p9 : Option Addr), ∃ (k10 : Nat), ∃ (k11 : Nat), ∃ (m12 : Mem), ∃ (k13 : Nat), appendA Try.prog m8 (k6 + 1) tLint tLint (Value.slice out'_a_1 out'_l_1 out'_c_1) (Value.slice (some { block := k6, off := 0 }) 1 1) = Eff.val (Value.slice p9 k10 k11) m12 k13 ∧ W Try.prog { fn := fLaw11members, nt := 36, slots := [(0, Value.slice l_a l_l l_c), (1, Value.int IntKind.i64 most), (5, Value.slice p9 k10 k11), (6, Value.int IntKind.i64 (IntKind.i64.wrap (n' + 1)))], todo := pt Try.prog fLaw11members [1, 1, 0, 1, 0, 0] } m12 k13 Q
 else W Try.prog { fn := fLaw11members, nt := 36, slots := [(0, Value.slice l_a l_l l_c), (1, Value.int IntKind.i64 most), (5, Value.slice out'_a_1 out'_l_1 out'_c_1), (6, Value.int IntKind.i64 n'), (7, Value.int IntKind.i64 (IntKind.i64.wrap (i + 1)))], todo := pt Try.prog fLaw11members [1, 1, 0, 1, 0, 0, 1, 0, 0, 1, 0, 0] } m5 k6 Q)
 else W Try.prog { fn := fLaw11members, nt := 36, slots := [(0, Value.slice l_a l_l l_c), (1, Value.int IntKind.i64 most), (5, Value.slice out'_a_1 out'_l_1 out'_c_1), (6, Value.int IntKind.i64 (IntKind.i64.wrap (n' + 1)))], todo := pt Try.prog fLaw11members [1, 1, 0, 1, 0, 0] } m n Q) := by kernel_rfl

/- 24 leafmesh/leafmeshkit.Own[int] -/
theorem xKitOwnint (m : Mem) (n : Nat) (Q : Value → Mem → Nat → Prop) (l_a : Option Addr) (l_l : Nat) (l_c : Nat) :
 Xc Try.prog xcfg 400 fKitOwnint [Value.slice l_a l_l l_c] m n Q =
 (memLet (Tr.set m n (AObj.cells none tInt 1 [])) fun (m0 : Mem) => ∃ (p1 : Option Addr), ∃ (k2 : Nat), ∃ (k3 : Nat), ∃ (m4 : Mem), ∃ (k5 : Nat), appendA Try.prog m0 (n + 1) tLint tLint (Value.slice (some { block := n, off := 0 }) 0 0) (Value.slice l_a l_l l_c) = Eff.val (Value.slice p1 k2 k3) m4 k5 ∧ Q (Value.slice p1 k2 k3) m4 k5) := by kernel_rfl

/- 25 leafmesh/leafmeshref11.New -/
theorem xRef11New (m : Mem) (n : Nat) (Q : Value → Mem → Nat → Prop) (buckets : Int) :
 Xc Try.prog xcfg 400 fRef11New [Value.int IntKind.i64 buckets] m n Q =
 (bif decide (buckets < 1) then Q (Value.tuple { toList := [Value.pointer none, Value.int IntKind.i64 2] }) m n else bif decide (buckets > 256) then Q (Value.tuple { toList := [Value.pointer none, Value.int IntKind.i64 2] }) m n else memLet (Tr.set m n (AObj.cells none tRef11Wheel 2 [Value.slice none 0 0, Value.slice none 0 0])) fun (m0 : Mem) => W Try.prog { fn := fRef11New, nt := 29, slots := [(0, Value.int IntKind.i64 buckets), (4, Value.pointer (some { block := n, off := 0 })), (5, Value.int IntKind.i64 0)], todo := pt Try.prog fRef11New [1, 1, 1, 0, 1, 0, 0] } m0 (n + 1) Q) := by kernel_rfl

theorem xRef11Newk0 (m : Mem) (n : Nat) (Q : Value → Mem → Nat → Prop) (buckets : Int) (w : Nat) (i : Int) :
 xF (evX Try.prog xcfg 400) { fn := fRef11New, nt := 29, slots := [(0, Value.int IntKind.i64 buckets), (4, Value.pointer (some { block := w, off := 0 })), (5, Value.int IntKind.i64 i)], todo := pt Try.prog fRef11New [1, 1, 1, 0, 1, 0, 0] } m n Q =
 (bif decide (i < buckets) then isC m w = true ∧ ∃ (p0 : Option Addr), ∃ (k1 : Nat), ∃ (k2 : Nat), rd m w 1 = some (Value.slice p0 k1 k2) ∧ memLet (Tr.set m n (AObj.cells none tInt 1 [Value.int IntKind.i64 (-1)])) fun (m3 : Mem) => ∃ (p4 : Option Addr), ∃ (k5 : Nat), ∃ (k6 : Nat), ∃ (m7 : Mem), ∃ (k8 : Nat), appendA Try.prog m3 (n + 1) tLint tLint (Value.slice p0 k1 k2) (Value.slice (some { block := n, off := 0 }) 1 1) = Eff.val (Value.slice p4 k5 k6) m7 k8 ∧ isC m7 w = true ∧ ∃ (m9 : Mem), storeCs m7 w 1 [Value.slice p4 k5 k6] = some m9 ∧ W Try.prog { fn := fRef11New, nt := 29, slots := [(0, Value.int IntKind.i64 buckets), (4, Value.pointer (some { block := w, off := 0 })), (5, Value.int IntKind.i64 (IntKind.i64.wrap (i + 1)))], todo := pt Try.prog fRef11New [1, 1, 1, 0, 1, 0, 0] } m9 k8 Q
 else Q (Value.tuple { toList := [Value.pointer (some { block := w, off := 0 }), Value.int IntKind.i64 0] }) m n) := by kernel_rfl

/- 26 leafmesh/leafmeshlaw11.same -/
theorem xLaw11same (m : Mem) (n : Nat) (Q : Value → Mem → Nat → Prop) (w : Nat) (o : Nat) (hash : Int) :
 Xc Try.prog xcfg 400 fLaw11same [Value.pointer (some { block := w, off := 0 }), Value.pointer (some { block := o, off := 0 }), Value.int IntKind.u64 hash] m n Q =
 (Wc Try.prog fSpreadWheelBuckets [Value.pointer (some { block := w, off := 0 })] m n fun (v0 : Value) (m1 : Mem) (k2 : Nat) =>
 ∃ (p3 : Option Addr),
 ∃ (k4 : Nat),
 ∃ (k5 : Nat),
 v0 = Value.slice p3 k4 k5 ∧
 Later
 (Wc Try.prog fSpreadWheelMembers [Value.pointer (some { block := w, off := 0 })] m1 k2 fun (v6 : Value) (m7 : Mem) (k8 : Nat) =>
 ∃ (p9 : Option Addr),
 ∃ (k10 : Nat),
 ∃ (k11 : Nat),
 v6 = Value.slice p9 k10 k11 ∧
 Later
 (isC m7 o = true ∧
 ∃ (p12 : Option Addr),
 ∃ (k13 : Nat),
 ∃ (k14 : Nat),
 rd m7 o 1 = some (Value.slice p12 k13 k14) ∧
 Wc Try.prog fKitSameint [Value.slice p3 k4 k5, Value.slice p12 k13 k14] m7 k8 fun (v15 : Value) (m16 : Mem) (k17 : Nat) =>
 ∃ (b18 : Bool), v15 = Value.bool b18 ∧ Later (bif !b18 then Q (Value.bool false) m16 k17 else isC m16 o = true ∧ ∃ (p19 : Option Addr), ∃ (k20 : Nat), ∃ (k21 : Nat), rd m16 o 0 = some (Value.slice p19 k20 k21) ∧ Wc Try.prog fKitSameint [Value.slice p9 k10 k11, Value.slice p19 k20 k21] m16 k17 fun (v22 : Value) (m23 : Mem) (k24 : Nat) => ∃ (b25 : Bool), v22 = Value.bool b25 ∧ Later (bif !b25 then Q (Value.bool false) m23 k24 else W Try.prog { fn := fLaw11same, nt := 102, slots := [(0, Value.pointer (some { block := w, off := 0 })), (1, Value.pointer (some { block := o, off := 0 })), (2, Value.int IntKind.u64 hash), (7, Value.slice p3 k4 k5), (8, Value.slice p9 k10 k11), (9, Value.int IntKind.i64 0)], todo := pt Try.prog fLaw11same [1, 1, 1, 0, 1, 0, 0] } m23 k24 Q))))) := by kernel_rfl

theorem xLaw11samek0 (m : Mem) (n : Nat) (Q : Value → Mem → Nat → Prop) (w : Nat) (o : Nat) (hash : Int) (b_a : Option Addr) (b_l : Nat) (b_c : Nat) (m'_a : Option Addr) (m'_l : Nat) (m'_c : Nat) (i : Int) :
 xF (evX Try.prog xcfg 400) { fn := fLaw11same, nt := 102, slots := [(0, Value.pointer (some { block := w, off := 0 })), (1, Value.pointer (some { block := o, off := 0 })), (2, Value.int IntKind.u64 hash), (7, Value.slice b_a b_l b_c), (8, Value.slice m'_a m'_l m'_c), (9, Value.int IntKind.i64 i)], todo := pt Try.prog fLaw11same [1, 1, 1, 0, 1, 0, 0] } m n Q =
 (bif decide (i < (↑b_l : Int)) then elimA b_a False fun (k0 k1 : Nat) (p2 : Option Nat) => (0 ≤ i ∧ i < (↑b_l : Int) ∧ liveAt m k0 = true ∧ (p2 ≠ none → 0 < b_c)) ∧ ∃ (m3 : Mem), storeCs m k0 (offOf k1 p2 + i.toNat * 1) [Value.int IntKind.i64 (-77)] = some m3 ∧ W Try.prog { fn := fLaw11same, nt := 102, slots := [(0, Value.pointer (some { block := w, off := 0 })), (1, Value.pointer (some { block := o, off := 0 })), (2, Value.int IntKind.u64 hash), (7, Value.slice b_a b_l b_c), (8, Value.slice m'_a m'_l m'_c), (9, Value.int IntKind.i64 (IntKind.i64.wrap (i + 1)))], todo := pt Try.prog fLaw11same [1, 1, 1, 0, 1, 0, 0] } m3 n Q
 else W Try.prog { fn := fLaw11same, nt := 102, slots := [(0, Value.pointer (some { block := w, off := 0 })), (1, Value.pointer (some { block := o, off := 0 })), (2, Value.int IntKind.u64 hash), (8, Value.slice m'_a m'_l m'_c), (10, Value.int IntKind.i64 0)], todo := pt Try.prog fLaw11same [1, 1, 1, 1, 0, 1, 0, 0] } m n Q) := by kernel_rfl

theorem xLaw11samek1 (m : Mem) (n : Nat) (Q : Value → Mem → Nat → Prop) (w : Nat) (o : Nat) (hash : Int) (m'_a : Option Addr) (m'_l : Nat) (m'_c : Nat) (i_1 : Int) :
 xF (evX Try.prog xcfg 400) { fn := fLaw11same, nt := 102, slots := [(0, Value.pointer (some { block := w, off := 0 })), (1, Value.pointer (some { block := o, off := 0 })), (2, Value.int IntKind.u64 hash), (8, Value.slice m'_a m'_l m'_c), (10, Value.int IntKind.i64 i_1)], todo := pt Try.prog fLaw11same [1, 1, 1, 1, 0, 1, 0, 0] } m n Q =
 (bif decide (i_1 < (↑m'_l : Int)) then
 isC m o = true ∧
 ∃ (p0 : Option Addr),
 ∃ (k1 : Nat),
 ∃ (k2 : Nat),
 rd m o 0 = some (Value.slice p0 k1 k2) ∧
 elimA p0 False fun (k3 k4 : Nat) (p5 : Option Nat) =>
 (0 ≤ i_1 ∧ i_1 < (↑k1 : Int) ∧ liveAt m k3 = true ∧ (p5 ≠ none → 0 < k2)) ∧
 ∃ (x6 : Int),
 rd m k3 (offOf k4 p5 + i_1.toNat * 1) = some (Value.int IntKind.i64 x6) ∧
 ∃ (x7 : Int),
 ∃ (m8 : Mem),
 ∃ (k9 : Nat),
 (Wc Try.prog fSpreadWheelLoad [Value.pointer (some { block := w, off := 0 }), Value.int IntKind.i64 x6] m (n + 19) fun (v10 : Value) (m11 : Mem) (k12 : Nat) => v10 = Value.int IntKind.i64 x7 ∧ m11 = m8 ∧ k12 = k9) ∧
 Later
 (isC m8 o = true ∧
 ∃ (p13 : Option Addr),
 ∃ (k14 : Nat),
 ∃ (k15 : Nat),
 rd m8 o 0 = some (Value.slice p13 k14 k15) ∧
 elimA p13 False fun (k16 k17 : Nat) (p18 : Option Nat) =>
 (0 ≤ i_1 ∧ i_1 < (↑k14 : Int) ∧ liveAt m8 k16 = true ∧ (p18 ≠ none → 0 < k15)) ∧
 ∃ (x19 : Int),
 rd m8 k16 (offOf k17 p18 + i_1.toNat * 1) = some (Value.int IntKind.i64 x19) ∧
 ∃ (x20 : Int),
 ∃ (m21 : Mem),
 ∃ (k22 : Nat),
 (Wc Try.prog fRef11WheelLoad [Value.pointer (some { block := o, off := 0 }), Value.int IntKind.i64 x19] m8 k9 fun (v23 : Value) (m24 : Mem) (k25 : Nat) => v23 = Value.int IntKind.i64 x20 ∧ m24 = m21 ∧ k25 = k22) ∧
 Later
 ((∃ (x26 : Int), rd m k16 (offOf k17 p18 + i_1.toNat * 1) = some (Value.int IntKind.i64 x26) ∧ Value.int IntKind.i64 x26 = Value.int IntKind.i64 x19) ∧
 (elimA p13 False fun (k27 k28 : Nat) (p29 : Option Nat) => (0 ≤ i_1 ∧ i_1 < (↑k14 : Int) ∧ liveAt m k27 = true ∧ (p29 ≠ none → 0 < k15)) ∧ Value.pointer (some { block := k27, off := offOf k28 p29 + i_1.toNat * 1 }) = Value.pointer (some { block := k16, off := offOf k17 p18 + i_1.toNat * 1 })) ∧
 (∃ (p30 : Option Addr), ∃ (k31 : Nat), ∃ (k32 : Nat), rd m o 0 = some (Value.slice p30 k31 k32) ∧ Value.slice p30 k31 k32 = Value.slice p13 k14 k15) ∧
 (isC m o = true ∧ Value.pointer (some { block := o, off := 0 }) = Value.pointer (some { block := o, off := 0 })) ∧ n + 19 ≤ k9 ∧ n + 19 ≤ k22 ∧ bif x7 != x20 then Q (Value.bool false) m21 k22 else elimA m'_a False fun (k33 k34 : Nat) (p35 : Option Nat) => (0 ≤ i_1 ∧ i_1 < (↑m'_l : Int) ∧ liveAt m21 k33 = true ∧ (p35 ≠ none → 0 < m'_c)) ∧ ∃ (m36 : Mem), storeCs m21 k33 (offOf k34 p35 + i_1.toNat * 1) [Value.int IntKind.i64 (-77)] = some m36 ∧ W Try.prog { fn := fLaw11same, nt := 102, slots := [(0, Value.pointer (some { block := w, off := 0 })), (1, Value.pointer (some { block := o, off := 0 })), (2, Value.int IntKind.u64 hash), (8, Value.slice m'_a m'_l m'_c), (10, Value.int IntKind.i64 (IntKind.i64.wrap (i_1 + 1)))], todo := pt Try.prog fLaw11same [1, 1, 1, 1, 0, 1, 0, 0] } m36 k22 Q))
 else
 Wc Try.prog fSpreadWheelPick [Value.pointer (some { block := w, off := 0 }), Value.int IntKind.u64 hash] m n fun (v37 : Value) (m38 : Mem) (k39 : Nat) =>
 ∃ (x40 : Int),
 ∃ (b41 : Bool),
 v37 = Value.tuple { toList := [Value.int IntKind.i64 x40, Value.bool b41] } ∧
 Later
 (Wc Try.prog fRef11WheelPick [Value.pointer (some { block := o, off := 0 }), Value.int IntKind.u64 hash] m38 k39 fun (v42 : Value) (m43 : Mem) (k44 : Nat) =>
 ∃ (x45 : Int), ∃ (b46 : Bool), v42 = Value.tuple { toList := [Value.int IntKind.i64 x45, Value.bool b46] } ∧ Later (bif x40 == x45 then bif b41 == b46 then Wc Try.prog fSpreadWheelLoad [Value.pointer (some { block := w, off := 0 }), Value.int IntKind.i64 (-1)] m43 k44 fun (v47 : Value) (m48 : Mem) (k49 : Nat) => ∃ (x50 : Int), v47 = Value.int IntKind.i64 x50 ∧ Later (bif x50 == 0 then Wc Try.prog fSpreadWheelLoad [Value.pointer (some { block := w, off := 0 }), Value.int IntKind.i64 128] m48 k49 fun (v51 : Value) (m52 : Mem) (k53 : Nat) => ∃ (x54 : Int), v51 = Value.int IntKind.i64 x54 ∧ Later (Q (Value.bool (x54 == 0)) m52 k53) else Q (Value.bool false) m48 k49) else Q (Value.bool false) m43 k44 else Q (Value.bool false) m43 k44))) := by kernel_rfl

/- 27 (*leafmesh/spread.Wheel).Copy -/
theorem xSpreadWheelCopy (m : Mem) (n : Nat) (Q : Value → Mem → Nat → Prop) (w : Nat) :
 Xc Try.prog xcfg 400 fSpreadWheelCopy [Value.pointer (some { block := w, off := 0 })] m n Q =
 (Wc Try.prog fSpreadWheelvalid [Value.pointer (some { block := w, off := 0 })] m n fun (v0 : Value) (m1 : Mem) (k2 : Nat) =>
 ∃ (b3 : Bool),
 v0 = Value.bool b3 ∧
 Later
 (bif !b3 then Q (Value.pointer none) m1 k2
 else
 isC m1 w = true ∧
 ∃ (p4 : Option Addr),
 rd m1 w 0 = some (Value.pointer p4) ∧
 elimP p4 False fun (k5 k6 : Nat) =>
 isC m1 k5 = true ∧
 ∃ (p7 : Option Addr),
 ∃ (k8 : Nat),
 ∃ (k9 : Nat),
 rd m1 k5 (k6 + 0) = some (Value.slice p7 k8 k9) ∧
 ∃ (p10 : Option Addr),
 ∃ (k11 : Nat),
 ∃ (k12 : Nat),
 ∃ (m13 : Mem),
 ∃ (k14 : Nat),
 (Wc Try.prog fSlicesCloneLintint [Value.slice p7 k8 k9] m1 (k2 + 21) fun (v15 : Value) (m16 : Mem) (k17 : Nat) => v15 = Value.slice p10 k11 k12 ∧ m16 = m13 ∧ k17 = k14) ∧
 Later
 (isC m13 w = true ∧
 ∃ (p18 : Option Addr),
 rd m13 w 0 = some (Value.pointer p18) ∧
 elimP p18 False fun (k19 k20 : Nat) =>
 isC m13 k19 = true ∧
 ∃ (p21 : Option Addr),
 ∃ (k22 : Nat),
 ∃ (k23 : Nat),
 rd m13 k19 (k20 + 1) = some (Value.slice p21 k22 k23) ∧
 ∃ (p24 : Option Addr),
 ∃ (k25 : Nat),
 ∃ (k26 : Nat),
 ∃ (m27 : Mem),
 ∃ (k28 : Nat),
 (Wc Try.prog fSlicesCloneLintint [Value.slice p21 k22 k23] m13 k14 fun (v29 : Value) (m30 : Mem) (k31 : Nat) => v29 = Value.slice p24 k25 k26 ∧ m30 = m27 ∧ k31 = k28) ∧
 Later
 ((∃ (p34 : Option Addr), ∃ (k35 : Nat), ∃ (k36 : Nat), rd m1 k19 (k20 + 1) = some (Value.slice p34 k35 k36) ∧ Value.slice p34 k35 k36 = Value.slice p21 k22 k23) ∧
 (isC m1 k19 = true ∧ Value.pointer (some { block := k19, off := k20 + 1 }) = Value.pointer (some { block := k19, off := k20 + 1 })) ∧ (∃ (p37 : Option Addr), rd m1 w 0 = some (Value.pointer p37) ∧ Value.pointer p37 = Value.pointer p18) ∧ (isC m1 w = true ∧ Value.pointer (some { block := w, off := 0 }) = Value.pointer (some { block := w, off := 0 })) ∧ k2 + 21 ≤ k14 ∧ k2 + 21 ≤ k28 ∧ Tr.get m13 (k2 + 17) = none ∧ Tr.get m13 (k2 + 19) = none ∧ Tr.get m27 (k2 + 17) = none ∧ Tr.get m27 (k2 + 19) = none ∧ memLet ((Tr.set m27 (k2 + 17) (AObj.cells none tSpreadstate 2 [Value.slice p10 k11 k12, Value.slice p24 k25 k26])).set (k2 + 19) (AObj.cells none tSpreadWheel 1 [Value.pointer (some { block := k2 + 17, off := 0 })])) fun (m38 : Mem) => Q (Value.pointer (some { block := k2 + 19, off := 0 })) m38 k28)))) := by kernel_rfl

/- 28 (*leafmesh/leafmeshref11.Wheel).Copy -/
theorem xRef11WheelCopy (m : Mem) (n : Nat) (Q : Value → Mem → Nat → Prop) (w : Nat) :
 Xc Try.prog xcfg 400 fRef11WheelCopy [Value.pointer (some { block := w, off := 0 })] m n Q =
 (isC m w = true ∧
 ∃ (p0 : Option Addr),
 ∃ (k1 : Nat),
 ∃ (k2 : Nat),
 rd m w 0 = some (Value.slice p0 k1 k2) ∧
 memLet (Tr.set m (n + 0) (AObj.cells none tInt 1 [])) fun (m3 : Mem) =>
 ∃ (p4 : Option Addr),
 ∃ (k5 : Nat),
 ∃ (k6 : Nat),
 ∃ (m7 : Mem),
 ∃ (k8 : Nat),
 appendA Try.prog m3 (n + 15) tLint tLint (Value.slice (some { block := n + 0, off := 0 }) 0 0) (Value.slice p0 k1 k2) = Eff.val (Value.slice p4 k5 k6) m7 k8 ∧
 isC m7 w = true ∧
 ∃ (p9 : Option Addr),
 ∃ (k10 : Nat),
 ∃ (k11 : Nat),
 rd m7 w 1 = some (Value.slice p9 k10 k11) ∧
 memLet (Tr.set m7 (n + 6) (AObj.cells none tInt 1 [])) fun (m12 : Mem) =>
 ∃ (p13 : Option Addr), ∃ (k14 : Nat), ∃ (k15 : Nat), ∃ (m16 : Mem), ∃ (k17 : Nat), appendA Try.prog m12 k8 tLint tLint (Value.slice (some { block := n + 6, off := 0 }) 0 0) (Value.slice p9 k10 k11) = Eff.val (Value.slice p13 k14 k15) m16 k17 ∧ (∃ (p19 : Option Addr), ∃ (k20 : Nat), ∃ (k21 : Nat), rd m w 1 = some (Value.slice p19 k20 k21) ∧ Value.slice p19 k20 k21 = Value.slice p9 k10 k11) ∧ (isC m w = true ∧ Value.pointer (some { block := w, off := 1 }) = Value.pointer (some { block := w, off := 1 })) ∧ n + 15 ≤ k8 ∧ n + 15 ≤ k17 ∧ Tr.get m7 (n + 6) = none ∧ Tr.get m7 (n + 13) = none ∧ Tr.get m16 (n + 13) = none ∧ memLet (Tr.set m16 (n + 13) (AObj.cells none tRef11Wheel 2 [Value.slice p4 k5 k6, Value.slice p13 k14 k15])) fun (m22 : Mem) => Q (Value.pointer (some { block := n + 13, off := 0 })) m22 k17) := by kernel_rfl

/- 29 (*leafmesh/leafmeshref11.Wheel).Set -/
theorem xRef11WheelSet (m : Mem) (n : Nat) (Q : Value → Mem → Nat → Prop) (w : Nat) (next_a : Option Addr) (next_l : Nat) (next_c : Nat) :
 Xc Try.prog xcfg 400 fRef11WheelSet [Value.pointer (some { block := w, off := 0 }), Value.slice next_a next_l next_c] m n Q =
 (W Try.prog { fn := fRef11WheelSet, nt := 151, slots := [(0, Value.pointer (some { block := w, off := 0 })), (1, Value.slice next_a next_l next_c), (5, Value.int IntKind.i64 0)], todo := pt Try.prog fRef11WheelSet [1, 0, 1, 0, 0] } m n Q) := by kernel_rfl

theorem xRef11WheelSetk0 (m : Mem) (n : Nat) (Q : Value → Mem → Nat → Prop) (w : Nat) (next_a : Option Addr) (next_l : Nat) (next_c : Nat) (i : Int) :
 xF (evX Try.prog xcfg 400) { fn := fRef11WheelSet, nt := 151, slots := [(0, Value.pointer (some { block := w, off := 0 })), (1, Value.slice next_a next_l next_c), (5, Value.int IntKind.i64 i)], todo := pt Try.prog fRef11WheelSet [1, 0, 1, 0, 0] } m n Q =
 (bif decide (i < (↑next_l : Int)) then
 elimA next_a False fun (k0 k1 : Nat) (p2 : Option Nat) =>
 (0 ≤ i ∧ i < (↑next_l : Int) ∧ liveAt m k0 = true ∧ (p2 ≠ none → 0 < next_c)) ∧
 ∃ (x3 : Int),
 rd m k0 (offOf k1 p2 + i.toNat * 1) = some (Value.int IntKind.i64 x3) ∧
 bif decide (x3 < 0) then Q (Value.int IntKind.i64 2) m n
 else
 elimA next_a False fun (k4 k5 : Nat) (p6 : Option Nat) =>
 (0 ≤ i ∧ i < (↑next_l : Int) ∧ liveAt m k4 = true ∧ (p6 ≠ none → 0 < next_c)) ∧
 ∃ (x7 : Int),
 rd m k4 (offOf k5 p6 + i.toNat * 1) = some (Value.int IntKind.i64 x7) ∧
 bif decide (x7 ≥ 128) then Q (Value.int IntKind.i64 2) m n
 else
 bif decide (i > 0) then
 elimA next_a False fun (k8 k9 : Nat) (p10 : Option Nat) => (0 ≤ i ∧ i < (↑next_l : Int) ∧ liveAt m k8 = true ∧ (p10 ≠ none → 0 < next_c)) ∧ ∃ (x11 : Int), rd m k8 (offOf k9 p10 + i.toNat * 1) = some (Value.int IntKind.i64 x11) ∧ elimA next_a False fun (k12 k13 : Nat) (p14 : Option Nat) => (0 ≤ IntKind.i64.wrap (i - 1) ∧ IntKind.i64.wrap (i - 1) < (↑next_l : Int) ∧ liveAt m k12 = true ∧ (p14 ≠ none → 0 < next_c)) ∧ ∃ (x15 : Int), rd m k12 (offOf k13 p14 + (IntKind.i64.wrap (i - 1)).toNat * 1) = some (Value.int IntKind.i64 x15) ∧ bif decide (x11 ≤ x15) then Q (Value.int IntKind.i64 10) m (n + 14) else W Try.prog { fn := fRef11WheelSet, nt := 151, slots := [(0, Value.pointer (some { block := w, off := 0 })), (1, Value.slice next_a next_l next_c), (5, Value.int IntKind.i64 (IntKind.i64.wrap (i + 1)))], todo := pt Try.prog fRef11WheelSet [1, 0, 1, 0, 0] } m (n + 14) Q
 else W Try.prog { fn := fRef11WheelSet, nt := 151, slots := [(0, Value.pointer (some { block := w, off := 0 })), (1, Value.slice next_a next_l next_c), (5, Value.int IntKind.i64 (IntKind.i64.wrap (i + 1)))], todo := pt Try.prog fRef11WheelSet [1, 0, 1, 0, 0] } m (n + 14) Q
 else isC m w = true ∧ ∃ (p16 : Option Addr), ∃ (k17 : Nat), ∃ (k18 : Nat), rd m w 1 = some (Value.slice p16 k17 k18) ∧ bif decide ((↑next_l : Int) > (↑k17 : Int)) then Q (Value.int IntKind.i64 7) m n else memLet (Tr.set m n (AObj.cells none tInt 1 [])) fun (m19 : Mem) => ∃ (p20 : Option Addr), ∃ (k21 : Nat), ∃ (k22 : Nat), ∃ (m23 : Mem), ∃ (k24 : Nat), appendA Try.prog m19 (n + 1) tLint tLint (Value.slice (some { block := n, off := 0 }) 0 0) (Value.slice next_a next_l next_c) = Eff.val (Value.slice p20 k21 k22) m23 k24 ∧ isC m23 w = true ∧ ∃ (m25 : Mem), storeCs m23 w 0 [Value.slice p20 k21 k22] = some m25 ∧ W Try.prog { fn := fRef11WheelSet, nt := 151, slots := [(0, Value.pointer (some { block := w, off := 0 })), (1, Value.slice next_a next_l next_c), (6, Value.int IntKind.i64 0)], todo := pt Try.prog fRef11WheelSet [1, 1, 1, 1, 0, 1, 0, 0] } m25 k24 Q) := by kernel_rfl

theorem xRef11WheelSetk1 (m : Mem) (n : Nat) (Q : Value → Mem → Nat → Prop) (w : Nat) (next_a : Option Addr) (next_l : Nat) (next_c : Nat) (i_1 : Int) :
 xF (evX Try.prog xcfg 400) { fn := fRef11WheelSet, nt := 151, slots := [(0, Value.pointer (some { block := w, off := 0 })), (1, Value.slice next_a next_l next_c), (6, Value.int IntKind.i64 i_1)], todo := pt Try.prog fRef11WheelSet [1, 1, 1, 1, 0, 1, 0, 0] } m n Q =
 (isC m w = true ∧
 ∃ (p0 : Option Addr),
 ∃ (k1 : Nat),
 ∃ (k2 : Nat),
 rd m w 1 = some (Value.slice p0 k1 k2) ∧
 bif decide (i_1 < (↑k1 : Int)) then
 isC m w = true ∧
 ∃ (p3 : Option Addr),
 ∃ (k4 : Nat),
 ∃ (k5 : Nat),
 rd m w 1 = some (Value.slice p3 k4 k5) ∧
 elimA p3 False fun (k6 k7 : Nat) (p8 : Option Nat) =>
 (0 ≤ i_1 ∧ i_1 < (↑k4 : Int) ∧ liveAt m k6 = true ∧ (p8 ≠ none → 0 < k5)) ∧
 ∃ (x9 : Int),
 rd m k6 (offOf k7 p8 + i_1.toNat * 1) = some (Value.int IntKind.i64 x9) ∧
 Wc Try.prog fRef11is [Value.slice next_a next_l next_c, Value.int IntKind.i64 x9] m n fun (v10 : Value) (m11 : Mem) (k12 : Nat) =>
 ∃ (b13 : Bool),
 v10 = Value.bool b13 ∧
 Later
 (bif !b13 then isC m11 w = true ∧ ∃ (p14 : Option Addr), ∃ (k15 : Nat), ∃ (k16 : Nat), rd m11 w 1 = some (Value.slice p14 k15 k16) ∧ elimA p14 False fun (k17 k18 : Nat) (p19 : Option Nat) => (0 ≤ i_1 ∧ i_1 < (↑k15 : Int) ∧ liveAt m11 k17 = true ∧ (p19 ≠ none → 0 < k16)) ∧ ∃ (m20 : Mem), storeCs m11 k17 (offOf k18 p19 + i_1.toNat * 1) [Value.int IntKind.i64 (-1)] = some m20 ∧ W Try.prog { fn := fRef11WheelSet, nt := 151, slots := [(0, Value.pointer (some { block := w, off := 0 })), (1, Value.slice next_a next_l next_c), (6, Value.int IntKind.i64 (IntKind.i64.wrap (i_1 + 1)))], todo := pt Try.prog fRef11WheelSet [1, 1, 1, 1, 0, 1, 0, 0] } m20 k12 Q
 else W Try.prog { fn := fRef11WheelSet, nt := 151, slots := [(0, Value.pointer (some { block := w, off := 0 })), (1, Value.slice next_a next_l next_c), (6, Value.int IntKind.i64 (IntKind.i64.wrap (i_1 + 1)))], todo := pt Try.prog fRef11WheelSet [1, 1, 1, 1, 0, 1, 0, 0] } m11 k12 Q)
 else bif (↑next_l : Int) == 0 then Q (Value.int IntKind.i64 0) m n else W Try.prog { fn := fRef11WheelSet, nt := 151, slots := [(0, Value.pointer (some { block := w, off := 0 })), (7, Value.int IntKind.i64 0)], todo := pt Try.prog fRef11WheelSet [1, 1, 1, 1, 1, 1, 0, 1, 0, 0] } m n Q) := by kernel_rfl

theorem xRef11WheelSetk2 (m : Mem) (n : Nat) (Q : Value → Mem → Nat → Prop) (w : Nat) (i_2 : Int) :
 xF (evX Try.prog xcfg 400) { fn := fRef11WheelSet, nt := 151, slots := [(0, Value.pointer (some { block := w, off := 0 })), (7, Value.int IntKind.i64 i_2)], todo := pt Try.prog fRef11WheelSet [1, 1, 1, 1, 1, 1, 0, 1, 0, 0] } m n Q =
 (isC m w = true ∧
 ∃ (p0 : Option Addr),
 ∃ (k1 : Nat),
 ∃ (k2 : Nat),
 rd m w 1 = some (Value.slice p0 k1 k2) ∧
 bif decide (i_2 < (↑k1 : Int)) then
 isC m w = true ∧
 ∃ (p3 : Option Addr),
 ∃ (k4 : Nat),
 ∃ (k5 : Nat),
 rd m w 1 = some (Value.slice p3 k4 k5) ∧
 elimA p3 False fun (k6 k7 : Nat) (p8 : Option Nat) =>
 (0 ≤ i_2 ∧ i_2 < (↑k4 : Int) ∧ liveAt m k6 = true ∧ (p8 ≠ none → 0 < k5)) ∧
 ∃ (x9 : Int),
 rd m k6 (offOf k7 p8 + i_2.toNat * 1) = some (Value.int IntKind.i64 x9) ∧
 bif decide (x9 < 0) then
 isC m w = true ∧
 ∃ (p10 : Option Addr),
 ∃ (k11 : Nat),
 ∃ (k12 : Nat),
 rd m w 1 = some (Value.slice p10 k11 k12) ∧
 ∃ (x13 : Int),
 ∃ (m14 : Mem),
 ∃ (k15 : Nat),
 (Wc Try.prog fRef11Wheelleast [Value.pointer (some { block := w, off := 0 })] m (n + 9) fun (v16 : Value) (m17 : Mem) (k18 : Nat) => v16 = Value.int IntKind.i64 x13 ∧ m17 = m14 ∧ k18 = k15) ∧
 Later (elimA p10 False fun (k19 k20 : Nat) (p21 : Option Nat) => (0 ≤ i_2 ∧ i_2 < (↑k11 : Int) ∧ liveAt m14 k19 = true ∧ (p21 ≠ none → 0 < k12)) ∧ ∃ (m22 : Mem), storeCs m14 k19 (offOf k20 p21 + i_2.toNat * 1) [Value.int IntKind.i64 x13] = some m22 ∧ (∃ (p23 : Option Addr), ∃ (k24 : Nat), ∃ (k25 : Nat), rd m14 w 1 = some (Value.slice p23 k24 k25) ∧ Value.slice p23 k24 k25 = Value.slice p10 k11 k12) ∧ (isC m14 w = true ∧ Value.pointer (some { block := w, off := 1 }) = Value.pointer (some { block := w, off := 1 })) ∧ n + 9 ≤ k15 ∧ n + 9 ≤ k15 ∧ W Try.prog { fn := fRef11WheelSet, nt := 151, slots := [(0, Value.pointer (some { block := w, off := 0 })), (7, Value.int IntKind.i64 (IntKind.i64.wrap (i_2 + 1)))], todo := pt Try.prog fRef11WheelSet [1, 1, 1, 1, 1, 1, 0, 1, 0, 0] } m22 k15 Q)
 else W Try.prog { fn := fRef11WheelSet, nt := 151, slots := [(0, Value.pointer (some { block := w, off := 0 })), (7, Value.int IntKind.i64 (IntKind.i64.wrap (i_2 + 1)))], todo := pt Try.prog fRef11WheelSet [1, 1, 1, 1, 1, 1, 0, 1, 0, 0] } m n Q
 else W Try.prog { fn := fRef11WheelSet, nt := 151, slots := [(0, Value.pointer (some { block := w, off := 0 }))], todo := pt Try.prog fRef11WheelSet [1, 1, 1, 1, 1, 1, 1, 0, 0, 0] } m n Q) := by kernel_rfl

theorem xRef11WheelSetk3 (m : Mem) (n : Nat) (Q : Value → Mem → Nat → Prop) (w : Nat) :
 xF (evX Try.prog xcfg 400) { fn := fRef11WheelSet, nt := 151, slots := [(0, Value.pointer (some { block := w, off := 0 }))], todo := pt Try.prog fRef11WheelSet [1, 1, 1, 1, 1, 1, 1, 0, 0, 0] } m n Q =
 (Wc Try.prog fRef11Wheelmost [Value.pointer (some { block := w, off := 0 })] m n fun (v0 : Value) (m1 : Mem) (k2 : Nat) =>
 ∃ (x3 : Int),
 v0 = Value.int IntKind.i64 x3 ∧
 Later
 (Wc Try.prog fRef11WheelLoad [Value.pointer (some { block := w, off := 0 }), Value.int IntKind.i64 x3] m1 k2 fun (v4 : Value) (m5 : Mem) (k6 : Nat) =>
 ∃ (x7 : Int),
 v4 = Value.int IntKind.i64 x7 ∧
 Later
 (Wc Try.prog fRef11Wheelleast [Value.pointer (some { block := w, off := 0 })] m5 k6 fun (v8 : Value) (m9 : Mem) (k10 : Nat) =>
 ∃ (x11 : Int),
 v8 = Value.int IntKind.i64 x11 ∧
 Later
 (Wc Try.prog fRef11WheelLoad [Value.pointer (some { block := w, off := 0 }), Value.int IntKind.i64 x11] m9 k10 fun (v12 : Value) (m13 : Mem) (k14 : Nat) =>
 ∃ (x15 : Int), v12 = Value.int IntKind.i64 x15 ∧ Later (bif decide (IntKind.i64.wrap (x7 - x15) > 1) then Wc Try.prog fRef11Wheelmost [Value.pointer (some { block := w, off := 0 })] m13 k14 fun (v16 : Value) (m17 : Mem) (k18 : Nat) => ∃ (x19 : Int), v16 = Value.int IntKind.i64 x19 ∧ Later (Wc Try.prog fRef11Wheelleast [Value.pointer (some { block := w, off := 0 })] m17 k18 fun (v20 : Value) (m21 : Mem) (k22 : Nat) => ∃ (x23 : Int), v20 = Value.int IntKind.i64 x23 ∧ Later (W Try.prog { fn := fRef11WheelSet, nt := 151, slots := [(0, Value.pointer (some { block := w, off := 0 })), (8, Value.int IntKind.i64 x19), (9, Value.int IntKind.i64 x23), (10, Value.int IntKind.i64 0), (11, Value.int IntKind.i64 0)], todo := pt Try.prog fRef11WheelSet [1, 1, 1, 1, 1, 1, 1, 0, 0, 0, 1, 0, 1, 1, 0, 1, 0, 0] } m21 k22 Q)) else Q (Value.int IntKind.i64 0) m13 k14))))) := by kernel_rfl

theorem xRef11WheelSetk4 (m : Mem) (n : Nat) (Q : Value → Mem → Nat → Prop) (w : Nat) (from' : Int) (to : Int) (at' : Int) (i_3 : Int) :
 xF (evX Try.prog xcfg 400) { fn := fRef11WheelSet, nt := 151, slots := [(0, Value.pointer (some { block := w, off := 0 })), (8, Value.int IntKind.i64 from'), (9, Value.int IntKind.i64 to), (10, Value.int IntKind.i64 at'), (11, Value.int IntKind.i64 i_3)], todo := pt Try.prog fRef11WheelSet [1, 1, 1, 1, 1, 1, 1, 0, 0, 0, 1, 0, 1, 1, 0, 1, 0, 0] } m n Q =
 (isC m w = true ∧
 ∃ (p0 : Option Addr),
 ∃ (k1 : Nat),
 ∃ (k2 : Nat),
 rd m w 1 = some (Value.slice p0 k1 k2) ∧
 bif decide (i_3 < (↑k1 : Int)) then
 isC m w = true ∧
 ∃ (p3 : Option Addr),
 ∃ (k4 : Nat),
 ∃ (k5 : Nat),
 rd m w 1 = some (Value.slice p3 k4 k5) ∧
 elimA p3 False fun (k6 k7 : Nat) (p8 : Option Nat) =>
 (0 ≤ i_3 ∧ i_3 < (↑k4 : Int) ∧ liveAt m k6 = true ∧ (p8 ≠ none → 0 < k5)) ∧
 ∃ (x9 : Int), rd m k6 (offOf k7 p8 + i_3.toNat * 1) = some (Value.int IntKind.i64 x9) ∧ bif x9 == from' then W Try.prog { fn := fRef11WheelSet, nt := 151, slots := [(0, Value.pointer (some { block := w, off := 0 })), (8, Value.int IntKind.i64 from'), (9, Value.int IntKind.i64 to), (10, Value.int IntKind.i64 i_3), (11, Value.int IntKind.i64 (IntKind.i64.wrap (i_3 + 1)))], todo := pt Try.prog fRef11WheelSet [1, 1, 1, 1, 1, 1, 1, 0, 0, 0, 1, 0, 1, 1, 0, 1, 0, 0] } m n Q else W Try.prog { fn := fRef11WheelSet, nt := 151, slots := [(0, Value.pointer (some { block := w, off := 0 })), (8, Value.int IntKind.i64 from'), (9, Value.int IntKind.i64 to), (10, Value.int IntKind.i64 at'), (11, Value.int IntKind.i64 (IntKind.i64.wrap (i_3 + 1)))], todo := pt Try.prog fRef11WheelSet [1, 1, 1, 1, 1, 1, 1, 0, 0, 0, 1, 0, 1, 1, 0, 1, 0, 0] } m n Q
 else isC m w = true ∧ ∃ (p10 : Option Addr), ∃ (k11 : Nat), ∃ (k12 : Nat), rd m w 1 = some (Value.slice p10 k11 k12) ∧ elimA p10 False fun (k13 k14 : Nat) (p15 : Option Nat) => (0 ≤ at' ∧ at' < (↑k11 : Int) ∧ liveAt m k13 = true ∧ (p15 ≠ none → 0 < k12)) ∧ ∃ (m16 : Mem), storeCs m k13 (offOf k14 p15 + at'.toNat * 1) [Value.int IntKind.i64 to] = some m16 ∧ W Try.prog { fn := fRef11WheelSet, nt := 151, slots := [(0, Value.pointer (some { block := w, off := 0 }))], todo := pt Try.prog fRef11WheelSet [1, 1, 1, 1, 1, 1, 1, 0, 0, 0] } m16 n Q) := by kernel_rfl

/- 30 leafmesh/spread.Hash -/
theorem xSpreadHash (m : Mem) (n : Nat) (Q : Value → Mem → Nat → Prop) (p0 : Int) (p1 : Int) (p2 : Int) (p3 : Int) (p4 : Int) (p5 : Int) (p6 : Int) (p7 : Int) (p8 : Int) (p9 : Int) (p10 : Int) (p11 : Int) (p12 : Int) (p13 : Int) (p14 : Int) (p15 : Int) (p16 : Int) (p17 : Int) (p18 : Int) (p19 : Int) (p20 : Int) :
 Xc Try.prog xcfg 400 fSpreadHash [Value.agg { toList := [Value.int IntKind.u32 p0, Value.int IntKind.u32 p1, Value.int IntKind.i64 p2, Value.int IntKind.i64 p3, Value.int IntKind.u32 p4, Value.int IntKind.u32 p5, Value.int IntKind.u64 p6, Value.int IntKind.u64 p7, Value.int IntKind.i64 p8, Value.int IntKind.i64 p9, Value.int IntKind.u64 p10, Value.int IntKind.u32 p11, Value.int IntKind.u64 p12, Value.int IntKind.u32 p13, Value.int IntKind.u32 p14, Value.int IntKind.u32 p15, Value.int IntKind.i64 p16, Value.int IntKind.i64 p17, Value.int IntKind.i64 p18, Value.int IntKind.i64 p19, Value.int IntKind.u64 p20] }] m n Q =
 (memLet (Tr.set m n (AObj.cells none tApiPacket 21 [Value.int IntKind.u32 p0, Value.int IntKind.u32 p1, Value.int IntKind.i64 p2, Value.int IntKind.i64 p3, Value.int IntKind.u32 p4, Value.int IntKind.u32 p5, Value.int IntKind.u64 p6, Value.int IntKind.u64 p7, Value.int IntKind.i64 p8, Value.int IntKind.i64 p9, Value.int IntKind.u64 p10, Value.int IntKind.u32 p11, Value.int IntKind.u64 p12, Value.int IntKind.u32 p13, Value.int IntKind.u32 p14, Value.int IntKind.u32 p15, Value.int IntKind.i64 p16, Value.int IntKind.i64 p17, Value.int IntKind.i64 p18, Value.int IntKind.i64 p19, Value.int IntKind.u64 p20])) fun (m0 : Mem) =>
 ∃ (x1 : Int),
 ∃ (x2 : Int),
 ∃ (x3 : Int),
 ∃ (x4 : Int),
 ∃ (x5 : Int),
 ∃ (x6 : Int),
 ∃ (x7 : Int),
 ∃ (x8 : Int),
 ∃ (x9 : Int),
 ∃ (x10 : Int),
 ∃ (x11 : Int),
 ∃ (x12 : Int),
 ∃ (x13 : Int),
 ∃ (x14 : Int),
 ∃ (x15 : Int),
 ∃ (x16 : Int),
 ∃ (x17 : Int),
 ∃ (x18 : Int),
 ∃ (x19 : Int),
 ∃ (x20 : Int),
 ∃ (x21 : Int),
 rds m0 n 0 21 = some [Value.int IntKind.u32 x1, Value.int IntKind.u32 x2, Value.int IntKind.i64 x3, Value.int IntKind.i64 x4, Value.int IntKind.u32 x5, Value.int IntKind.u32 x6, Value.int IntKind.u64 x7, Value.int IntKind.u64 x8, Value.int IntKind.i64 x9, Value.int IntKind.i64 x10, Value.int IntKind.u64 x11, Value.int IntKind.u32 x12, Value.int IntKind.u64 x13, Value.int IntKind.u32 x14, Value.int IntKind.u32 x15, Value.int IntKind.u32 x16, Value.int IntKind.i64 x17, Value.int IntKind.i64 x18, Value.int IntKind.i64 x19, Value.int IntKind.i64 x20, Value.int IntKind.u64 x21] ∧
 Wc Try.prog fSpreadfields [Value.agg { toList := [Value.int IntKind.u32 x1, Value.int IntKind.u32 x2, Value.int IntKind.i64 x3, Value.int IntKind.i64 x4, Value.int IntKind.u32 x5, Value.int IntKind.u32 x6, Value.int IntKind.u64 x7, Value.int IntKind.u64 x8, Value.int IntKind.i64 x9, Value.int IntKind.i64 x10, Value.int IntKind.u64 x11, Value.int IntKind.u32 x12, Value.int IntKind.u64 x13, Value.int IntKind.u32 x14, Value.int IntKind.u32 x15, Value.int IntKind.u32 x16, Value.int IntKind.i64 x17, Value.int IntKind.i64 x18, Value.int IntKind.i64 x19, Value.int IntKind.i64 x20, Value.int IntKind.u64 x21] }] m0 (n + 1) fun (v22 : Value) (m23 : Mem) (k24 : Nat) =>
 ∃ (y25 : FuncId), ∃ (l26 : List Value), ∃ (l27 : List Value), v22 = Value.func (Fn.func y25) { toList := l26 } { toList := l27 } ∧ Later (Wc Try.prog fSpreadfoldbyteuint64 [Value.func (Fn.func y25) { toList := l26 } { toList := l27 }, Value.int IntKind.u64 14695981039346656037, Value.func (Fn.func fSpreadHash1) { toList := [] } { toList := [] }] m23 k24 fun (v28 : Value) (m29 : Mem) (k30 : Nat) => ∃ (x31 : Int), v28 = Value.int IntKind.u64 x31 ∧ Later (Q (Value.int IntKind.u64 x31) m29 k30))) := by kernel_rfl

/- 31 leafmesh/leafmeshref11.Hash -/
theorem xRef11Hash (m : Mem) (n : Nat) (Q : Value → Mem → Nat → Prop) (p0 : Int) (p1 : Int) (p2 : Int) (p3 : Int) (p4 : Int) (p5 : Int) (p6 : Int) (p7 : Int) (p8 : Int) (p9 : Int) (p10 : Int) (p11 : Int) (p12 : Int) (p13 : Int) (p14 : Int) (p15 : Int) (p16 : Int) (p17 : Int) (p18 : Int) (p19 : Int) (p20 : Int) :
 Xc Try.prog xcfg 400 fRef11Hash [Value.agg { toList := [Value.int IntKind.u32 p0, Value.int IntKind.u32 p1, Value.int IntKind.i64 p2, Value.int IntKind.i64 p3, Value.int IntKind.u32 p4, Value.int IntKind.u32 p5, Value.int IntKind.u64 p6, Value.int IntKind.u64 p7, Value.int IntKind.i64 p8, Value.int IntKind.i64 p9, Value.int IntKind.u64 p10, Value.int IntKind.u32 p11, Value.int IntKind.u64 p12, Value.int IntKind.u32 p13, Value.int IntKind.u32 p14, Value.int IntKind.u32 p15, Value.int IntKind.i64 p16, Value.int IntKind.i64 p17, Value.int IntKind.i64 p18, Value.int IntKind.i64 p19, Value.int IntKind.u64 p20] }] m n Q =
 (memLet (Tr.set m n (AObj.cells none tApiPacket 21 [Value.int IntKind.u32 p0, Value.int IntKind.u32 p1, Value.int IntKind.i64 p2, Value.int IntKind.i64 p3, Value.int IntKind.u32 p4, Value.int IntKind.u32 p5, Value.int IntKind.u64 p6, Value.int IntKind.u64 p7, Value.int IntKind.i64 p8, Value.int IntKind.i64 p9, Value.int IntKind.u64 p10, Value.int IntKind.u32 p11, Value.int IntKind.u64 p12, Value.int IntKind.u32 p13, Value.int IntKind.u32 p14, Value.int IntKind.u32 p15, Value.int IntKind.i64 p16, Value.int IntKind.i64 p17, Value.int IntKind.i64 p18, Value.int IntKind.i64 p19, Value.int IntKind.u64 p20])) fun (m0 : Mem) =>
 ∃ (x1 : Int),
 ∃ (x2 : Int),
 ∃ (x3 : Int),
 ∃ (x4 : Int),
 ∃ (x5 : Int),
 ∃ (x6 : Int),
 ∃ (x7 : Int),
 ∃ (x8 : Int),
 ∃ (x9 : Int),
 ∃ (x10 : Int),
 ∃ (x11 : Int),
 ∃ (x12 : Int),
 ∃ (x13 : Int),
 ∃ (x14 : Int),
 ∃ (x15 : Int),
 ∃ (x16 : Int),
 ∃ (x17 : Int),
 ∃ (x18 : Int),
 ∃ (x19 : Int),
 ∃ (x20 : Int),
 ∃ (x21 : Int),
 rds m0 n 0 21 = some [Value.int IntKind.u32 x1, Value.int IntKind.u32 x2, Value.int IntKind.i64 x3, Value.int IntKind.i64 x4, Value.int IntKind.u32 x5, Value.int IntKind.u32 x6, Value.int IntKind.u64 x7, Value.int IntKind.u64 x8, Value.int IntKind.i64 x9, Value.int IntKind.i64 x10, Value.int IntKind.u64 x11, Value.int IntKind.u32 x12, Value.int IntKind.u64 x13, Value.int IntKind.u32 x14, Value.int IntKind.u32 x15, Value.int IntKind.u32 x16, Value.int IntKind.i64 x17, Value.int IntKind.i64 x18, Value.int IntKind.i64 x19, Value.int IntKind.i64 x20, Value.int IntKind.u64 x21] ∧
 Wc Try.prog fRef11Bytes [Value.agg { toList := [Value.int IntKind.u32 x1, Value.int IntKind.u32 x2, Value.int IntKind.i64 x3, Value.int IntKind.i64 x4, Value.int IntKind.u32 x5, Value.int IntKind.u32 x6, Value.int IntKind.u64 x7, Value.int IntKind.u64 x8, Value.int IntKind.i64 x9, Value.int IntKind.i64 x10, Value.int IntKind.u64 x11, Value.int IntKind.u32 x12, Value.int IntKind.u64 x13, Value.int IntKind.u32 x14, Value.int IntKind.u32 x15, Value.int IntKind.u32 x16, Value.int IntKind.i64 x17, Value.int IntKind.i64 x18, Value.int IntKind.i64 x19, Value.int IntKind.i64 x20, Value.int IntKind.u64 x21] }] m0 (n + 1) fun (v22 : Value) (m23 : Mem) (k24 : Nat) =>
 ∃ (p25 : Option Addr), ∃ (k26 : Nat), ∃ (k27 : Nat), v22 = Value.slice p25 k26 k27 ∧ Later (W Try.prog { fn := fRef11Hash, nt := 23, slots := [(3, Value.int IntKind.u64 14695981039346656037), (4, Value.slice p25 k26 k27), (5, Value.int IntKind.i64 0)], todo := pt Try.prog fRef11Hash [1, 1, 1, 0, 1, 0, 0] } m23 k24 Q)) := by kernel_rfl

theorem xRef11Hashk0 (m : Mem) (n : Nat) (Q : Value → Mem → Nat → Prop) (h : Int) (l_a : Option Addr) (l_l : Nat) (l_c : Nat) (i : Int) :
 xF (evX Try.prog xcfg 400) { fn := fRef11Hash, nt := 23, slots := [(3, Value.int IntKind.u64 h), (4, Value.slice l_a l_l l_c), (5, Value.int IntKind.i64 i)], todo := pt Try.prog fRef11Hash [1, 1, 1, 0, 1, 0, 0] } m n Q =
 (bif decide (i < (↑l_l : Int)) then elimA l_a False fun (k0 k1 : Nat) (p2 : Option Nat) => (0 ≤ i ∧ i < (↑l_l : Int) ∧ liveAt m k0 = true ∧ (p2 ≠ none → 0 < l_c)) ∧ ∃ (x3 : Int), rd m k0 (offOf k1 p2 + i.toNat * 1) = some (Value.int IntKind.u8 x3) ∧ W Try.prog { fn := fRef11Hash, nt := 23, slots := [(3, Value.int IntKind.u64 (IntKind.u64.wrap (IntKind.u64.wrap (↑(BitVec.ofInt 64 h ^^^ BitVec.ofInt 64 (IntKind.u64.wrap x3)).toNat : Int) * 1099511628211))), (4, Value.slice l_a l_l l_c), (5, Value.int IntKind.i64 (IntKind.i64.wrap (i + 1)))], todo := pt Try.prog fRef11Hash [1, 1, 1, 0, 1, 0, 0] } m n Q else Q (Value.int IntKind.u64 h) m n) := by kernel_rfl

/- 32 slices.Repeat[[]int,int] -/
theorem xSlicesRepeatLintint (m : Mem) (n : Nat) (Q : Value → Mem → Nat → Prop) (x_a : Option Addr) (x_l : Nat) (x_c : Nat) (count : Int) :
 Xc Try.prog xcfg 400 fSlicesRepeatLintint [Value.slice x_a x_l x_c, Value.int IntKind.i64 count] m n Q =
 (bif decide (count < 0) then False else W Try.prog { fn := fSlicesRepeatLintint, nt := 48, slots := [(0, Value.slice x_a x_l x_c), (1, Value.int IntKind.i64 count)], todo := pt Try.prog fSlicesRepeatLintint [1, 1, 0] } m n Q) := by kernel_rfl

theorem xSlicesRepeatLintintk0 (m : Mem) (n : Nat) (Q : Value → Mem → Nat → Prop) (x_a : Option Addr) (x_l : Nat) (x_c : Nat) (count : Int) :
 xF (ev1 Try.prog xcfg 400) { fn := fSlicesRepeatLintint, nt := 48, slots := [(0, Value.slice x_a x_l x_c), (1, Value.int IntKind.i64 count)], todo := pt Try.prog fSlicesRepeatLintint [1, 1, 0] } m n Q =
 (Wc Try.prog fMathbitsMul [Value.int IntKind.u64 (IntKind.u64.wrap (↑x_l : Int)), Value.int IntKind.u64 (IntKind.u64.wrap count)] m n fun (v0 : Value) (m1 : Mem) (k2 : Nat) => ∃ (x3 : Int), ∃ (x4 : Int), v0 = Value.tuple { toList := [Value.int IntKind.u64 x3, Value.int IntKind.u64 x4] } ∧ Later (bif decide (x3 > 0) then False else bif decide (x4 > 9223372036854775807) then False else W Try.prog { fn := fSlicesRepeatLintint, nt := 48, slots := [(0, Value.slice x_a x_l x_c), (6, Value.int IntKind.u64 x4)], todo := pt Try.prog fSlicesRepeatLintint [1, 1, 1, 1, 0] } m1 k2 Q)) := by kernel_rfl

theorem xSlicesRepeatLintintk1 (m : Mem) (n : Nat) (Q : Value → Mem → Nat → Prop) (x_a : Option Addr) (x_l : Nat) (x_c : Nat) (lo : Int) :
 xF (ev1 Try.prog xcfg 400) { fn := fSlicesRepeatLintint, nt := 48, slots := [(0, Value.slice x_a x_l x_c), (6, Value.int IntKind.u64 lo)], todo := pt Try.prog fSlicesRepeatLintint [1, 1, 1, 1, 0] } m n Q =
 ((0 ≤ IntKind.i64.wrap lo ∧ IntKind.i64.wrap lo ≤ IntKind.i64.wrap lo ∧ 9 * IntKind.i64.wrap lo ≤ 281474976710656) ∧ memLet (Tr.set m n (AObj.cells none tInt 1 (List.replicate (IntKind.i64.wrap lo).toNat [Value.int IntKind.i64 0]).flatten)) fun (m0 : Mem) => ∃ (x1 : Int), ∃ (m2 : Mem), copyV Try.prog m0 (n + 1) tLint (some { block := n, off := 0 }) (IntKind.i64.wrap lo).toNat (IntKind.i64.wrap lo).toNat x_a x_l x_c = Eff.val (Value.int IntKind.i64 x1) m2 (n + 1) ∧ W Try.prog { fn := fSlicesRepeatLintint, nt := 48, slots := [(7, Value.slice (some { block := n, off := 0 }) (IntKind.i64.wrap lo).toNat (IntKind.i64.wrap lo).toNat), (8, Value.int IntKind.i64 x1)], todo := pt Try.prog fSlicesRepeatLintint [1, 1, 1, 1, 1, 1, 0, 0, 0] } m2 (n + 1) Q) := by kernel_rfl

theorem xSlicesRepeatLintintk2 (m : Mem) (n : Nat) (Q : Value → Mem → Nat → Prop) (newslice_a : Option Addr) (newslice_l : Nat) (newslice_c : Nat) (n' : Int) :
 xF (evX Try.prog xcfg 400) { fn := fSlicesRepeatLintint, nt := 48, slots := [(7, Value.slice newslice_a newslice_l newslice_c), (8, Value.int IntKind.i64 n')], todo := pt Try.prog fSlicesRepeatLintint [1, 1, 1, 1, 1, 1, 0, 0, 0] } m n Q =
 (bif decide (n' < (↑newslice_l : Int)) then
 elimA newslice_a
 ((0 ≤ n' ∧ n' ≤ (↑newslice_l : Int)) ∧
 elimA newslice_a ((0 ≤ n' ∧ n' ≤ (↑newslice_c : Int)) ∧ ∃ (x0 : Int), ∃ (m1 : Mem), copyV Try.prog m (n + 10) tLint none (newslice_l - n'.toNat) (newslice_c - n'.toNat) none (n'.toNat - 0) (newslice_c - 0) = Eff.val (Value.int IntKind.i64 x0) m1 (n + 10) ∧ n + 10 ≤ n + 10 ∧ W Try.prog { fn := fSlicesRepeatLintint, nt := 48, slots := [(7, Value.slice newslice_a newslice_l newslice_c), (8, Value.int IntKind.i64 (IntKind.i64.wrap (n' + x0)))], todo := pt Try.prog fSlicesRepeatLintint [1, 1, 1, 1, 1, 1, 0, 0, 0] } m1 (n + 10) Q) fun (k2 k3 : Nat) (p4 : Option Nat) =>
 (0 ≤ n' ∧ n' ≤ (↑newslice_c : Int)) ∧
 elimM p4 (∃ (x5 : Int), ∃ (m6 : Mem), copyV Try.prog m (n + 10) tLint none (newslice_l - n'.toNat) (newslice_c - n'.toNat) (some { block := k2, off := if newslice_c = 0 then k3 else k3 + 0 }) (n'.toNat - 0) (newslice_c - 0) = Eff.val (Value.int IntKind.i64 x5) m6 (n + 10) ∧ n + 10 ≤ n + 10 ∧ W Try.prog { fn := fSlicesRepeatLintint, nt := 48, slots := [(7, Value.slice newslice_a newslice_l newslice_c), (8, Value.int IntKind.i64 (IntKind.i64.wrap (n' + x5)))], todo := pt Try.prog fSlicesRepeatLintint [1, 1, 1, 1, 1, 1, 0, 0, 0] } m6 (n + 10) Q) fun (k7 : Nat) =>
 (0 ≤ newslice_c ∧ 0 < newslice_c) ∧ ∃ (x8 : Int), ∃ (m9 : Mem), copyV Try.prog m (n + 10) tLint none (newslice_l - n'.toNat) (newslice_c - n'.toNat) (some { block := k2, off := if newslice_c = 0 then k7 else k7 + 0, spot := some (k7 + 0) }) (n'.toNat - 0) (newslice_c - 0) = Eff.val (Value.int IntKind.i64 x8) m9 (n + 10) ∧ n + 10 ≤ n + 10 ∧ W Try.prog { fn := fSlicesRepeatLintint, nt := 48, slots := [(7, Value.slice newslice_a newslice_l newslice_c), (8, Value.int IntKind.i64 (IntKind.i64.wrap (n' + x8)))], todo := pt Try.prog fSlicesRepeatLintint [1, 1, 1, 1, 1, 1, 0, 0, 0] } m9 (n + 10) Q)
 fun (k10 k11 : Nat) (p12 : Option Nat) =>
 (0 ≤ n' ∧ n' ≤ (↑newslice_l : Int)) ∧
 elimM p12
 (elimA newslice_a ((0 ≤ n' ∧ n' ≤ (↑newslice_c : Int)) ∧ ∃ (x13 : Int), ∃ (m14 : Mem), copyV Try.prog m (n + 10) tLint (some { block := k10, off := if newslice_c = n'.toNat then k11 else k11 + n'.toNat * 1 }) (newslice_l - n'.toNat) (newslice_c - n'.toNat) none (n'.toNat - 0) (newslice_c - 0) = Eff.val (Value.int IntKind.i64 x13) m14 (n + 10) ∧ n + 10 ≤ n + 10 ∧ W Try.prog { fn := fSlicesRepeatLintint, nt := 48, slots := [(7, Value.slice newslice_a newslice_l newslice_c), (8, Value.int IntKind.i64 (IntKind.i64.wrap (n' + x13)))], todo := pt Try.prog fSlicesRepeatLintint [1, 1, 1, 1, 1, 1, 0, 0, 0] } m14 (n + 10) Q) fun (k15 k16 : Nat) (p17 : Option Nat) =>
 (0 ≤ n' ∧ n' ≤ (↑newslice_c : Int)) ∧
 elimM p17 (∃ (x18 : Int), ∃ (m19 : Mem), copyV Try.prog m (n + 10) tLint (some { block := k10, off := if newslice_c = n'.toNat then k11 else k11 + n'.toNat * 1 }) (newslice_l - n'.toNat) (newslice_c - n'.toNat) (some { block := k15, off := if newslice_c = 0 then k16 else k16 + 0 }) (n'.toNat - 0) (newslice_c - 0) = Eff.val (Value.int IntKind.i64 x18) m19 (n + 10) ∧ n + 10 ≤ n + 10 ∧ W Try.prog { fn := fSlicesRepeatLintint, nt := 48, slots := [(7, Value.slice newslice_a newslice_l newslice_c), (8, Value.int IntKind.i64 (IntKind.i64.wrap (n' + x18)))], todo := pt Try.prog fSlicesRepeatLintint [1, 1, 1, 1, 1, 1, 0, 0, 0] } m19 (n + 10) Q) fun (k20 : Nat) =>
 (0 ≤ newslice_c ∧ 0 < newslice_c) ∧ ∃ (x21 : Int), ∃ (m22 : Mem), copyV Try.prog m (n + 10) tLint (some { block := k10, off := if newslice_c = n'.toNat then k11 else k11 + n'.toNat * 1 }) (newslice_l - n'.toNat) (newslice_c - n'.toNat) (some { block := k15, off := if newslice_c = 0 then k20 else k20 + 0, spot := some (k20 + 0) }) (n'.toNat - 0) (newslice_c - 0) = Eff.val (Value.int IntKind.i64 x21) m22 (n + 10) ∧ n + 10 ≤ n + 10 ∧ W Try.prog { fn := fSlicesRepeatLintint, nt := 48, slots := [(7, Value.slice newslice_a newslice_l newslice_c), (8, Value.int IntKind.i64 (IntKind.i64.wrap (n' + x21)))], todo := pt Try.prog fSlicesRepeatLintint [1, 1, 1, 1, 1, 1, 0, 0, 0] } m22 (n + 10) Q)
 fun (k23 : Nat) =>
 (n'.toNat ≤ newslice_c ∧ 0 < newslice_c) ∧
 elimA newslice_a ((0 ≤ n' ∧ n' ≤ (↑newslice_c : Int)) ∧ ∃ (x24 : Int), ∃ (m25 : Mem), copyV Try.prog m (n + 10) tLint (some { block := k10, off := if newslice_c = n'.toNat then k23 else k23 + n'.toNat * 1, spot := some (k23 + n'.toNat * 1) }) (newslice_l - n'.toNat) (newslice_c - n'.toNat) none (n'.toNat - 0) (newslice_c - 0) = Eff.val (Value.int IntKind.i64 x24) m25 (n + 10) ∧ n + 10 ≤ n + 10 ∧ W Try.prog { fn := fSlicesRepeatLintint, nt := 48, slots := [(7, Value.slice newslice_a newslice_l newslice_c), (8, Value.int IntKind.i64 (IntKind.i64.wrap (n' + x24)))], todo := pt Try.prog fSlicesRepeatLintint [1, 1, 1, 1, 1, 1, 0, 0, 0] } m25 (n + 10) Q) fun (k26 k27 : Nat) (p28 : Option Nat) =>
 (0 ≤ n' ∧ n' ≤ (↑newslice_c : Int)) ∧
 elimM p28 (∃ (x29 : Int), ∃ (m30 : Mem), copyV Try.prog m (n + 10) tLint (some { block := k10, off := if newslice_c = n'.toNat then k23 else k23 + n'.toNat * 1, spot := some (k23 + n'.toNat * 1) }) (newslice_l - n'.toNat) (newslice_c - n'.toNat) (some { block := k26, off := if newslice_c = 0 then k27 else k27 + 0 }) (n'.toNat - 0) (newslice_c - 0) = Eff.val (Value.int IntKind.i64 x29) m30 (n + 10) ∧ n + 10 ≤ n + 10 ∧ W Try.prog { fn := fSlicesRepeatLintint, nt := 48, slots := [(7, Value.slice newslice_a newslice_l newslice_c), (8, Value.int IntKind.i64 (IntKind.i64.wrap (n' + x29)))], todo := pt Try.prog fSlicesRepeatLintint [1, 1, 1, 1, 1, 1, 0, 0, 0] } m30 (n + 10) Q) fun (k31 : Nat) =>
 (0 ≤ newslice_c ∧ 0 < newslice_c) ∧ ∃ (x32 : Int), ∃ (m33 : Mem), copyV Try.prog m (n + 10) tLint (some { block := k10, off := if newslice_c = n'.toNat then k23 else k23 + n'.toNat * 1, spot := some (k23 + n'.toNat * 1) }) (newslice_l - n'.toNat) (newslice_c - n'.toNat) (some { block := k26, off := if newslice_c = 0 then k31 else k31 + 0, spot := some (k31 + 0) }) (n'.toNat - 0) (newslice_c - 0) = Eff.val (Value.int IntKind.i64 x32) m33 (n + 10) ∧ n + 10 ≤ n + 10 ∧ W Try.prog { fn := fSlicesRepeatLintint, nt := 48, slots := [(7, Value.slice newslice_a newslice_l newslice_c), (8, Value.int IntKind.i64 (IntKind.i64.wrap (n' + x32)))], todo := pt Try.prog fSlicesRepeatLintint [1, 1, 1, 1, 1, 1, 0, 0, 0] } m33 (n + 10) Q
 else Q (Value.slice newslice_a newslice_l newslice_c) m n) := by kernel_rfl

/- 33 (*leafmesh/spread.Wheel).valid -/
theorem xSpreadWheelvalid (m : Mem) (n : Nat) (Q : Value → Mem → Nat → Prop) (w : Nat) :
 Xc Try.prog xcfg 400 fSpreadWheelvalid [Value.pointer (some { block := w, off := 0 })] m n Q =
 (isC m w = true ∧ ∃ (p0 : Option Addr), rd m w 0 = some (Value.pointer p0) ∧ Q (Value.bool !p0.isNone) m n) := by kernel_rfl

/- 34 slices.Clone[[]int,int] -/
theorem xSlicesCloneLintint (m : Mem) (n : Nat) (Q : Value → Mem → Nat → Prop) (s_a : Option Addr) (s_l : Nat) (s_c : Nat) :
 Xc Try.prog xcfg 400 fSlicesCloneLintint [Value.slice s_a s_l s_c] m n Q =
 (elimA s_a (Q (Value.slice none 0 0) m n) fun (k0 k1 : Nat) (p2 : Option Nat) => ∃ (b3 : Bool), nilAt m k0 = some b3 ∧ bif b3 then Q (Value.slice none 0 0) m n else memLet (Tr.set m n (AObj.cells none tInt 1 [])) fun (m4 : Mem) => ∃ (p5 : Option Addr), ∃ (k6 : Nat), ∃ (k7 : Nat), ∃ (m8 : Mem), ∃ (k9 : Nat), appendA Try.prog m4 (n + 1) tLint tLint (Value.slice (some { block := n, off := 0 }) 0 0) (Value.slice s_a s_l s_c) = Eff.val (Value.slice p5 k6 k7) m8 k9 ∧ Q (Value.slice p5 k6 k7) m8 k9) := by kernel_rfl

/- 35 slices.Contains[[]int,int] -/
theorem xSlicesContainsLintint (m : Mem) (n : Nat) (Q : Value → Mem → Nat → Prop) (s_a : Option Addr) (s_l : Nat) (s_c : Nat) (v : Int) :
 Xc Try.prog xcfg 400 fSlicesContainsLintint [Value.slice s_a s_l s_c, Value.int IntKind.i64 v] m n Q =
 (Wc Try.prog fSlicesIndexLintint [Value.slice s_a s_l s_c, Value.int IntKind.i64 v] m n fun (v0 : Value) (m1 : Mem) (k2 : Nat) => ∃ (x3 : Int), v0 = Value.int IntKind.i64 x3 ∧ Later (Q (Value.bool (decide (x3 ≥ 0))) m1 k2)) := by kernel_rfl

/- 36 (*leafmesh/spread.state).least -/
theorem xSpreadstateleast (m : Mem) (n : Nat) (Q : Value → Mem → Nat → Prop) (s : Nat) :
 Xc Try.prog xcfg 400 fSpreadstateleast [Value.pointer (some { block := s, off := 0 })] m n Q =
 (memLet (Tr.set m n (AObj.cells none tPspreadstate 1 [Value.pointer (some { block := s, off := 0 })])) fun (m0 : Mem) => ∃ (p1 : Option Addr), rd m0 n 0 = some (Value.pointer p1) ∧ elimP p1 False fun (k2 k3 : Nat) => isC m0 k2 = true ∧ ∃ (p4 : Option Addr), ∃ (k5 : Nat), ∃ (k6 : Nat), rd m0 k2 (k3 + 0) = some (Value.slice p4 k5 k6) ∧ Wc Try.prog fSlicesMinFuncLintint [Value.slice p4 k5 k6, Value.func (Fn.func fSpreadstateleast1) { toList := [] } { toList := [Value.pointer (some { block := n, off := 0 })] }] m0 (n + 1) fun (v7 : Value) (m8 : Mem) (k9 : Nat) => ∃ (x10 : Int), v7 = Value.int IntKind.i64 x10 ∧ Later (Q (Value.int IntKind.i64 x10) m8 k9)) := by kernel_rfl

/- 37 (*leafmesh/spread.state).load -/
theorem xSpreadstateload (m : Mem) (n : Nat) (Q : Value → Mem → Nat → Prop) (s : Nat) (member : Int) :
 Xc Try.prog xcfg 400 fSpreadstateload [Value.pointer (some { block := s, off := 0 }), Value.int IntKind.i64 member] m n Q =
 (isC m s = true ∧ ∃ (p0 : Option Addr), ∃ (k1 : Nat), ∃ (k2 : Nat), rd m s 1 = some (Value.slice p0 k1 k2) ∧ W Try.prog { fn := fSpreadstateload, nt := 24, slots := [(1, Value.int IntKind.i64 member), (5, Value.int IntKind.i64 0), (11, Value.slice p0 k1 k2), (12, Value.int IntKind.i64 (↑k1 : Int)), (13, Value.int IntKind.i64 0)], todo := pt Try.prog fSpreadstateload [1, 1, 0, 1, 0, 0] } m n Q) := by kernel_rfl

theorem xSpreadstateloadk0 (m : Mem) (n : Nat) (Q : Value → Mem → Nat → Prop) (member : Int) (n' : Int) (t11_a : Option Addr) (t11_l : Nat) (t11_c : Nat) (t12 : Int) (t13 : Int) :
 xF (evX Try.prog xcfg 400) { fn := fSpreadstateload, nt := 24, slots := [(1, Value.int IntKind.i64 member), (5, Value.int IntKind.i64 n'), (11, Value.slice t11_a t11_l t11_c), (12, Value.int IntKind.i64 t12), (13, Value.int IntKind.i64 t13)], todo := pt Try.prog fSpreadstateload [1, 1, 0, 1, 0, 0] } m n Q =
 (bif decide (t13 < t12) then
 elimA t11_a False fun (k0 k1 : Nat) (p2 : Option Nat) =>
 (0 ≤ t13 ∧ t13 < (↑t11_l : Int) ∧ liveAt m k0 = true ∧ (p2 ≠ none → 0 < t11_c)) ∧ ∃ (x3 : Int), rd m k0 (offOf k1 p2 + t13.toNat * 1) = some (Value.int IntKind.i64 x3) ∧ bif x3 == member then W Try.prog { fn := fSpreadstateload, nt := 24, slots := [(1, Value.int IntKind.i64 member), (5, Value.int IntKind.i64 (IntKind.i64.wrap (n' + 1))), (11, Value.slice t11_a t11_l t11_c), (12, Value.int IntKind.i64 t12), (13, Value.int IntKind.i64 (IntKind.i64.wrap (t13 + 1)))], todo := pt Try.prog fSpreadstateload [1, 1, 0, 1, 0, 0] } m n Q else W Try.prog { fn := fSpreadstateload, nt := 24, slots := [(1, Value.int IntKind.i64 member), (5, Value.int IntKind.i64 n'), (11, Value.slice t11_a t11_l t11_c), (12, Value.int IntKind.i64 t12), (13, Value.int IntKind.i64 (IntKind.i64.wrap (t13 + 1)))], todo := pt Try.prog fSpreadstateload [1, 1, 0, 1, 0, 0] } m n Q
 else Q (Value.int IntKind.i64 n') m n) := by kernel_rfl

/- 38 (*leafmesh/spread.state).most -/
theorem xSpreadstatemost (m : Mem) (n : Nat) (Q : Value → Mem → Nat → Prop) (s : Nat) :
 Xc Try.prog xcfg 400 fSpreadstatemost [Value.pointer (some { block := s, off := 0 })] m n Q =
 (memLet (Tr.set m n (AObj.cells none tPspreadstate 1 [Value.pointer (some { block := s, off := 0 })])) fun (m0 : Mem) =>
 ∃ (p1 : Option Addr), rd m0 n 0 = some (Value.pointer p1) ∧ elimP p1 False fun (k2 k3 : Nat) => isC m0 k2 = true ∧ ∃ (p4 : Option Addr), ∃ (k5 : Nat), ∃ (k6 : Nat), rd m0 k2 (k3 + 0) = some (Value.slice p4 k5 k6) ∧ Wc Try.prog fSlicesCloneLintint [Value.slice p4 k5 k6] m0 (n + 1) fun (v7 : Value) (m8 : Mem) (k9 : Nat) => ∃ (p10 : Option Addr), ∃ (k11 : Nat), ∃ (k12 : Nat), v7 = Value.slice p10 k11 k12 ∧ Later (Wc Try.prog fSlicesReverseLintint [Value.slice p10 k11 k12] m8 k9 fun (v13 : Value) (m14 : Mem) (k15 : Nat) => v13 = Value.tuple { toList := [] } ∧ Later (Wc Try.prog fSlicesMaxFuncLintint [Value.slice p10 k11 k12, Value.func (Fn.func fSpreadstatemost1) { toList := [] } { toList := [Value.pointer (some { block := n, off := 0 })] }] m14 k15 fun (v16 : Value) (m17 : Mem) (k18 : Nat) => ∃ (x19 : Int), v16 = Value.int IntKind.i64 x19 ∧ Later (Q (Value.int IntKind.i64 x19) m17 k18)))) := by kernel_rfl

/- 39 slices.Backward[[]int,int] -/
theorem xSlicesBackwardLintint (m : Mem) (n : Nat) (Q : Value → Mem → Nat → Prop) (s_a : Option Addr) (s_l : Nat) (s_c : Nat) :
 Xc Try.prog xcfg 400 fSlicesBackwardLintint [Value.slice s_a s_l s_c] m n Q =
 (memLet (Tr.set m n (AObj.cells none tLint 1 [Value.slice s_a s_l s_c])) fun (m0 : Mem) => Q (Value.func (Fn.func fSlicesBackwardLintint1) { toList := [] } { toList := [Value.pointer (some { block := n, off := 0 })] }) m0 (n + 1)) := by kernel_rfl

/- 40 (*leafmesh/leafmeshref11.Wheel).Load -/
theorem xRef11WheelLoad (m : Mem) (n : Nat) (Q : Value → Mem → Nat → Prop) (w : Nat) (member : Int) :
 Xc Try.prog xcfg 400 fRef11WheelLoad [Value.pointer (some { block := w, off := 0 }), Value.int IntKind.i64 member] m n Q =
 (W Try.prog { fn := fRef11WheelLoad, nt := 32, slots := [(0, Value.pointer (some { block := w, off := 0 })), (1, Value.int IntKind.i64 member), (5, Value.int IntKind.i64 0), (6, Value.int IntKind.i64 0)], todo := pt Try.prog fRef11WheelLoad [1, 1, 0, 1, 0, 0] } m n Q) := by kernel_rfl

theorem xRef11WheelLoadk0 (m : Mem) (n : Nat) (Q : Value → Mem → Nat → Prop) (w : Nat) (member : Int) (n' : Int) (i : Int) :
 xF (evX Try.prog xcfg 400) { fn := fRef11WheelLoad, nt := 32, slots := [(0, Value.pointer (some { block := w, off := 0 })), (1, Value.int IntKind.i64 member), (5, Value.int IntKind.i64 n'), (6, Value.int IntKind.i64 i)], todo := pt Try.prog fRef11WheelLoad [1, 1, 0, 1, 0, 0] } m n Q =
 (isC m w = true ∧
 ∃ (p0 : Option Addr),
 ∃ (k1 : Nat),
 ∃ (k2 : Nat),
 rd m w 1 = some (Value.slice p0 k1 k2) ∧
 bif decide (i < (↑k1 : Int)) then
 bif decide (member ≥ 0) then
 isC m w = true ∧
 ∃ (p3 : Option Addr),
 ∃ (k4 : Nat),
 ∃ (k5 : Nat),
 rd m w 1 = some (Value.slice p3 k4 k5) ∧
 elimA p3 False fun (k6 k7 : Nat) (p8 : Option Nat) => (0 ≤ i ∧ i < (↑k4 : Int) ∧ liveAt m k6 = true ∧ (p8 ≠ none → 0 < k5)) ∧ ∃ (x9 : Int), rd m k6 (offOf k7 p8 + i.toNat * 1) = some (Value.int IntKind.i64 x9) ∧ bif x9 == member then W Try.prog { fn := fRef11WheelLoad, nt := 32, slots := [(0, Value.pointer (some { block := w, off := 0 })), (1, Value.int IntKind.i64 member), (5, Value.int IntKind.i64 (IntKind.i64.wrap (n' + 1))), (6, Value.int IntKind.i64 (IntKind.i64.wrap (i + 1)))], todo := pt Try.prog fRef11WheelLoad [1, 1, 0, 1, 0, 0] } m n Q else W Try.prog { fn := fRef11WheelLoad, nt := 32, slots := [(0, Value.pointer (some { block := w, off := 0 })), (1, Value.int IntKind.i64 member), (5, Value.int IntKind.i64 n'), (6, Value.int IntKind.i64 (IntKind.i64.wrap (i + 1)))], todo := pt Try.prog fRef11WheelLoad [1, 1, 0, 1, 0, 0] } m n Q
 else W Try.prog { fn := fRef11WheelLoad, nt := 32, slots := [(0, Value.pointer (some { block := w, off := 0 })), (1, Value.int IntKind.i64 member), (5, Value.int IntKind.i64 n'), (6, Value.int IntKind.i64 (IntKind.i64.wrap (i + 1)))], todo := pt Try.prog fRef11WheelLoad [1, 1, 0, 1, 0, 0] } m n Q
 else Q (Value.int IntKind.i64 n') m n) := by kernel_rfl

/- 41 (*leafmesh/leafmeshref11.Wheel).Pick -/
theorem xRef11WheelPick (m : Mem) (n : Nat) (Q : Value → Mem → Nat → Prop) (w : Nat) (hash : Int) :
 Xc Try.prog xcfg 400 fRef11WheelPick [Value.pointer (some { block := w, off := 0 }), Value.int IntKind.u64 hash] m n Q =
 (isC m w = true ∧
 ∃ (p0 : Option Addr),
 ∃ (k1 : Nat),
 ∃ (k2 : Nat),
 rd m w 0 = some (Value.slice p0 k1 k2) ∧ bif (↑k1 : Int) == 0 then Q (Value.tuple { toList := [Value.int IntKind.i64 0, Value.bool false] }) m n else isC m w = true ∧ ∃ (p3 : Option Addr), ∃ (k4 : Nat), ∃ (k5 : Nat), rd m w 1 = some (Value.slice p3 k4 k5) ∧ isC m w = true ∧ ∃ (p6 : Option Addr), ∃ (k7 : Nat), ∃ (k8 : Nat), rd m w 1 = some (Value.slice p6 k7 k8) ∧ IntKind.u64.wrap (↑k7 : Int) ≠ 0 ∧ elimA p3 False fun (k9 k10 : Nat) (p11 : Option Nat) => (0 ≤ IntKind.i64.wrap (hash.tmod (IntKind.u64.wrap (↑k7 : Int))) ∧ IntKind.i64.wrap (hash.tmod (IntKind.u64.wrap (↑k7 : Int))) < (↑k4 : Int) ∧ liveAt m k9 = true ∧ (p11 ≠ none → 0 < k5)) ∧ ∃ (x12 : Int), rd m k9 (offOf k10 p11 + (IntKind.i64.wrap (hash.tmod (IntKind.u64.wrap (↑k7 : Int)))).toNat * 1) = some (Value.int IntKind.i64 x12) ∧ Q (Value.tuple { toList := [Value.int IntKind.i64 x12, Value.bool true] }) m (n + 17)) := by kernel_rfl

/- 42 leafmesh/leafmeshref11.is -/
theorem xRef11is (m : Mem) (n : Nat) (Q : Value → Mem → Nat → Prop) (l_a : Option Addr) (l_l : Nat) (l_c : Nat) (n' : Int) :
 Xc Try.prog xcfg 400 fRef11is [Value.slice l_a l_l l_c, Value.int IntKind.i64 n'] m n Q =
 (W Try.prog { fn := fRef11is, nt := 18, slots := [(0, Value.slice l_a l_l l_c), (1, Value.int IntKind.i64 n'), (5, Value.int IntKind.i64 0)], todo := pt Try.prog fRef11is [1, 0, 1, 0, 0] } m n Q) := by kernel_rfl

theorem xRef11isk0 (m : Mem) (n : Nat) (Q : Value → Mem → Nat → Prop) (l_a : Option Addr) (l_l : Nat) (l_c : Nat) (n' : Int) (i : Int) :
 xF (evX Try.prog xcfg 400) { fn := fRef11is, nt := 18, slots := [(0, Value.slice l_a l_l l_c), (1, Value.int IntKind.i64 n'), (5, Value.int IntKind.i64 i)], todo := pt Try.prog fRef11is [1, 0, 1, 0, 0] } m n Q =
 (bif decide (i < (↑l_l : Int)) then elimA l_a False fun (k0 k1 : Nat) (p2 : Option Nat) => (0 ≤ i ∧ i < (↑l_l : Int) ∧ liveAt m k0 = true ∧ (p2 ≠ none → 0 < l_c)) ∧ ∃ (x3 : Int), rd m k0 (offOf k1 p2 + i.toNat * 1) = some (Value.int IntKind.i64 x3) ∧ bif x3 == n' then Q (Value.bool true) m n else W Try.prog { fn := fRef11is, nt := 18, slots := [(0, Value.slice l_a l_l l_c), (1, Value.int IntKind.i64 n'), (5, Value.int IntKind.i64 (IntKind.i64.wrap (i + 1)))], todo := pt Try.prog fRef11is [1, 0, 1, 0, 0] } m n Q else Q (Value.bool false) m n) := by kernel_rfl

/- 43 (*leafmesh/leafmeshref11.Wheel).least -/
theorem xRef11Wheelleast (m : Mem) (n : Nat) (Q : Value → Mem → Nat → Prop) (w : Nat) :
 Xc Try.prog xcfg 400 fRef11Wheelleast [Value.pointer (some { block := w, off := 0 })] m n Q =
 (isC m w = true ∧ ∃ (p0 : Option Addr), ∃ (k1 : Nat), ∃ (k2 : Nat), rd m w 0 = some (Value.slice p0 k1 k2) ∧ elimA p0 False fun (k3 k4 : Nat) (p5 : Option Nat) => ((0 : Int) ≤ 0 ∧ 0 < (↑k1 : Int) ∧ liveAt m k3 = true ∧ (p5 ≠ none → 0 < k2)) ∧ ∃ (x6 : Int), rd m k3 (offOf k4 p5 + 0) = some (Value.int IntKind.i64 x6) ∧ W Try.prog { fn := fRef11Wheelleast, nt := 41, slots := [(0, Value.pointer (some { block := w, off := 0 })), (3, Value.int IntKind.i64 x6), (4, Value.int IntKind.i64 0)], todo := pt Try.prog fRef11Wheelleast [1, 1, 0, 1, 0, 0] } m n Q) := by kernel_rfl

theorem xRef11Wheelleastk0 (m : Mem) (n : Nat) (Q : Value → Mem → Nat → Prop) (w : Nat) (out' : Int) (i : Int) :
 xF (evX Try.prog xcfg 400) { fn := fRef11Wheelleast, nt := 41, slots := [(0, Value.pointer (some { block := w, off := 0 })), (3, Value.int IntKind.i64 out'), (4, Value.int IntKind.i64 i)], todo := pt Try.prog fRef11Wheelleast [1, 1, 0, 1, 0, 0] } m n Q =
 (isC m w = true ∧
 ∃ (p0 : Option Addr),
 ∃ (k1 : Nat),
 ∃ (k2 : Nat),
 rd m w 0 = some (Value.slice p0 k1 k2) ∧
 bif decide (i < (↑k1 : Int)) then
 isC m w = true ∧
 ∃ (p3 : Option Addr),
 ∃ (k4 : Nat),
 ∃ (k5 : Nat),
 rd m w 0 = some (Value.slice p3 k4 k5) ∧
 elimA p3 False fun (k6 k7 : Nat) (p8 : Option Nat) =>
 (0 ≤ i ∧ i < (↑k4 : Int) ∧ liveAt m k6 = true ∧ (p8 ≠ none → 0 < k5)) ∧
 ∃ (x9 : Int),
 rd m k6 (offOf k7 p8 + i.toNat * 1) = some (Value.int IntKind.i64 x9) ∧
 Wc Try.prog fRef11WheelLoad [Value.pointer (some { block := w, off := 0 }), Value.int IntKind.i64 x9] m n fun (v10 : Value) (m11 : Mem) (k12 : Nat) =>
 ∃ (x13 : Int),
 v10 = Value.int IntKind.i64 x13 ∧
 Later
 (Wc Try.prog fRef11WheelLoad [Value.pointer (some { block := w, off := 0 }), Value.int IntKind.i64 out'] m11 k12 fun (v14 : Value) (m15 : Mem) (k16 : Nat) =>
 ∃ (x17 : Int),
 v14 = Value.int IntKind.i64 x17 ∧
 Later
 (bif decide (x13 < x17) then isC m15 w = true ∧ ∃ (p18 : Option Addr), ∃ (k19 : Nat), ∃ (k20 : Nat), rd m15 w 0 = some (Value.slice p18 k19 k20) ∧ elimA p18 False fun (k21 k22 : Nat) (p23 : Option Nat) => (0 ≤ i ∧ i < (↑k19 : Int) ∧ liveAt m15 k21 = true ∧ (p23 ≠ none → 0 < k20)) ∧ ∃ (x24 : Int), rd m15 k21 (offOf k22 p23 + i.toNat * 1) = some (Value.int IntKind.i64 x24) ∧ W Try.prog { fn := fRef11Wheelleast, nt := 41, slots := [(0, Value.pointer (some { block := w, off := 0 })), (3, Value.int IntKind.i64 x24), (4, Value.int IntKind.i64 (IntKind.i64.wrap (i + 1)))], todo := pt Try.prog fRef11Wheelleast [1, 1, 0, 1, 0, 0] } m15 k16 Q
 else W Try.prog { fn := fRef11Wheelleast, nt := 41, slots := [(0, Value.pointer (some { block := w, off := 0 })), (3, Value.int IntKind.i64 out'), (4, Value.int IntKind.i64 (IntKind.i64.wrap (i + 1)))], todo := pt Try.prog fRef11Wheelleast [1, 1, 0, 1, 0, 0] } m15 k16 Q))
 else Q (Value.int IntKind.i64 out') m n) := by kernel_rfl

/- 44 (*leafmesh/leafmeshref11.Wheel).most -/
theorem xRef11Wheelmost (m : Mem) (n : Nat) (Q : Value → Mem → Nat → Prop) (w : Nat) :
 Xc Try.prog xcfg 400 fRef11Wheelmost [Value.pointer (some { block := w, off := 0 })] m n Q =
 (isC m w = true ∧ ∃ (p0 : Option Addr), ∃ (k1 : Nat), ∃ (k2 : Nat), rd m w 0 = some (Value.slice p0 k1 k2) ∧ elimA p0 False fun (k3 k4 : Nat) (p5 : Option Nat) => ((0 : Int) ≤ 0 ∧ 0 < (↑k1 : Int) ∧ liveAt m k3 = true ∧ (p5 ≠ none → 0 < k2)) ∧ ∃ (x6 : Int), rd m k3 (offOf k4 p5 + 0) = some (Value.int IntKind.i64 x6) ∧ W Try.prog { fn := fRef11Wheelmost, nt := 41, slots := [(0, Value.pointer (some { block := w, off := 0 })), (3, Value.int IntKind.i64 x6), (4, Value.int IntKind.i64 0)], todo := pt Try.prog fRef11Wheelmost [1, 1, 0, 1, 0, 0] } m n Q) := by kernel_rfl

theorem xRef11Wheelmostk0 (m : Mem) (n : Nat) (Q : Value → Mem → Nat → Prop) (w : Nat) (out' : Int) (i : Int) :
 xF (evX Try.prog xcfg 400) { fn := fRef11Wheelmost, nt := 41, slots := [(0, Value.pointer (some { block := w, off := 0 })), (3, Value.int IntKind.i64 out'), (4, Value.int IntKind.i64 i)], todo := pt Try.prog fRef11Wheelmost [1, 1, 0, 1, 0, 0] } m n Q =
 (isC m w = true ∧
 ∃ (p0 : Option Addr),
 ∃ (k1 : Nat),
 ∃ (k2 : Nat),
 rd m w 0 = some (Value.slice p0 k1 k2) ∧
 bif decide (i < (↑k1 : Int)) then
 isC m w = true ∧
 ∃ (p3 : Option Addr),
 ∃ (k4 : Nat),
 ∃ (k5 : Nat),
 rd m w 0 = some (Value.slice p3 k4 k5) ∧
 elimA p3 False fun (k6 k7 : Nat) (p8 : Option Nat) =>
 (0 ≤ i ∧ i < (↑k4 : Int) ∧ liveAt m k6 = true ∧ (p8 ≠ none → 0 < k5)) ∧
 ∃ (x9 : Int),
 rd m k6 (offOf k7 p8 + i.toNat * 1) = some (Value.int IntKind.i64 x9) ∧
 Wc Try.prog fRef11WheelLoad [Value.pointer (some { block := w, off := 0 }), Value.int IntKind.i64 x9] m n fun (v10 : Value) (m11 : Mem) (k12 : Nat) =>
 ∃ (x13 : Int),
 v10 = Value.int IntKind.i64 x13 ∧
 Later
 (Wc Try.prog fRef11WheelLoad [Value.pointer (some { block := w, off := 0 }), Value.int IntKind.i64 out'] m11 k12 fun (v14 : Value) (m15 : Mem) (k16 : Nat) =>
 ∃ (x17 : Int),
 v14 = Value.int IntKind.i64 x17 ∧
 Later
 (bif decide (x13 ≥ x17) then isC m15 w = true ∧ ∃ (p18 : Option Addr), ∃ (k19 : Nat), ∃ (k20 : Nat), rd m15 w 0 = some (Value.slice p18 k19 k20) ∧ elimA p18 False fun (k21 k22 : Nat) (p23 : Option Nat) => (0 ≤ i ∧ i < (↑k19 : Int) ∧ liveAt m15 k21 = true ∧ (p23 ≠ none → 0 < k20)) ∧ ∃ (x24 : Int), rd m15 k21 (offOf k22 p23 + i.toNat * 1) = some (Value.int IntKind.i64 x24) ∧ W Try.prog { fn := fRef11Wheelmost, nt := 41, slots := [(0, Value.pointer (some { block := w, off := 0 })), (3, Value.int IntKind.i64 x24), (4, Value.int IntKind.i64 (IntKind.i64.wrap (i + 1)))], todo := pt Try.prog fRef11Wheelmost [1, 1, 0, 1, 0, 0] } m15 k16 Q
 else W Try.prog { fn := fRef11Wheelmost, nt := 41, slots := [(0, Value.pointer (some { block := w, off := 0 })), (3, Value.int IntKind.i64 out'), (4, Value.int IntKind.i64 (IntKind.i64.wrap (i + 1)))], todo := pt Try.prog fRef11Wheelmost [1, 1, 0, 1, 0, 0] } m15 k16 Q))
 else Q (Value.int IntKind.i64 out') m n) := by kernel_rfl

/- 45 leafmesh/spread.fold[byte,uint64] -/
theorem xSpreadfoldbyteuint64 (m : Mem) (n : Nat) (Q : Value → Mem → Nat → Prop) (l_g : Nat) (l_f : List Value) (l_k : List Value) (out' : Int) (f_g : Nat) (f_f : List Value) (f_k : List Value) :
 Xc Try.prog xcfg 400 fSpreadfoldbyteuint64 [Value.func (Fn.func l_g) { toList := l_f } { toList := l_k }, Value.int IntKind.u64 out', Value.func (Fn.func f_g) { toList := f_f } { toList := f_k }] m n Q =
 (memLet (Tr.set m n (AObj.cells none tUint64 1 [Value.int IntKind.u64 out'])) fun (m0 : Mem) =>
 memLet (Tr.set m0 (n + 1) (AObj.cells none tFuncuint64uint8uint64 1 [Value.func (Fn.func f_g) { toList := f_f } { toList := f_k }])) fun (m1 : Mem) =>
 memLet ((Tr.set m1 (n + 1 + 1) (AObj.deferred (some []))).set (n + 1 + 1 + 1) (loopO fSpreadfoldbyteuint64 15 [(4, Value.pointer (some { block := n, off := 0 })), (5, Value.pointer (some { block := n + 1, off := 0 })), (8, Value.func (Fn.func l_g) { toList := l_f } { toList := l_k })] LoopState.ready none (pt Try.prog fSpreadfoldbyteuint64 [1, 0, 1, 0]) (n + 1 + 1))) fun (m2 : Mem) =>
 Wc Try.prog l_g (l_f ++ [Value.func (Fn.yield (n + 1 + 1 + 1)) { toList := [] } { toList := [] }] ++ l_k) m2 (n + 1 + 1 + 2) fun (v3 : Value) (m4 : Mem) (k5 : Nat) =>
 ∃ (y6 : LoopState),
 ∃ (p7 : Option Code),
 Tr.get m4 (n + 1 + 1 + 1) = some (loopO fSpreadfoldbyteuint64 15 [(4, Value.pointer (some { block := n, off := 0 })), (5, Value.pointer (some { block := n + 1, off := 0 })), (8, Value.func (Fn.func l_g) { toList := l_f } { toList := l_k })] y6 p7 (pt Try.prog fSpreadfoldbyteuint64 [1, 0, 1, 0]) (n + 1 + 1)) ∧
 isBusy y6 = false ∧ Later (memLet (Tr.set m4 (n + 1 + 1 + 1) (loopO fSpreadfoldbyteuint64 15 [(4, Value.pointer (some { block := n, off := 0 })), (5, Value.pointer (some { block := n + 1, off := 0 })), (8, Value.func (Fn.func l_g) { toList := l_f } { toList := l_k })] LoopState.exhausted p7 (pt Try.prog fSpreadfoldbyteuint64 [1, 0, 1, 0]) (n + 1 + 1))) fun (m8 : Mem) => elimJ p7 (∃ (x9 : Int), rd m8 n 0 = some (Value.int IntKind.u64 x9) ∧ Tr.get m8 (n + 1 + 1) = some (AObj.deferred (some [])) ∧ memLet (Tr.set m8 (n + 1 + 1) (AObj.deferred none)) fun (m10 : Mem) => Q (Value.int IntKind.u64 x9) m10 k5) (Tr.get m8 (n + 1 + 1) = some (AObj.deferred (some [])) ∧ False) fun (y12 : Code) => False)) := by kernel_rfl

theorem xSpreadfoldbyteuint64r0 (m : Mem) (n : Nat) (Q : Value → Mem → Nat → Prop) (l_g : Nat) (l_f : List Value) (l_k : List Value) (out'_1 : Nat) (f : Nat) (Y : Nat) (t9v : Int) :
 xF (evX Try.prog xcfg 400) (roundF fSpreadfoldbyteuint64 15 [(4, Value.pointer (some { block := out'_1, off := 0 })), (5, Value.pointer (some { block := f, off := 0 })), (8, Value.func (Fn.func l_g) { toList := l_f } { toList := l_k })] (pt Try.prog fSpreadfoldbyteuint64 [1, 0, 1, 0]) [Value.int IntKind.i64 t9v] Y) m n Q =
 (∃ (y0 : AObj), Tr.get m Y = some y0 ∧ lpReady y0 = true ∧ memLet (Tr.set m Y (lpBusy y0)) fun (m1 : Mem) => ∃ (y2 : FuncId), ∃ (l3 : List Value), ∃ (l4 : List Value), rd m1 f 0 = some (Value.func (Fn.func y2) { toList := l3 } { toList := l4 }) ∧ ∃ (x5 : Int), rd m1 out'_1 0 = some (Value.int IntKind.u64 x5) ∧ Wc Try.prog y2 (l3 ++ [Value.int IntKind.u64 x5, Value.int IntKind.i64 t9v] ++ l4) m1 n fun (v6 : Value) (m7 : Mem) (k8 : Nat) => ∃ (x9 : Int), v6 = Value.int IntKind.u64 x9 ∧ Later (∃ (m10 : Mem), storeCs m7 out'_1 0 [Value.int IntKind.u64 x9] = some m10 ∧ ∃ (y11 : AObj), Tr.get m10 Y = some y11 ∧ isLp y11 = true ∧ memLet (Tr.set m10 Y (lpSet y11 LoopState.ready none)) fun (m12 : Mem) => Q (Value.bool true) m12 k8)) := by kernel_rfl

/- 46 leafmesh/spread.fields -/
theorem xSpreadfields (m : Mem) (n : Nat) (Q : Value → Mem → Nat → Prop) (p0 : Int) (p1 : Int) (p2 : Int) (p3 : Int) (p4 : Int) (p5 : Int) (p6 : Int) (p7 : Int) (p8 : Int) (p9 : Int) (p10 : Int) (p11 : Int) (p12 : Int) (p13 : Int) (p14 : Int) (p15 : Int) (p16 : Int) (p17 : Int) (p18 : Int) (p19 : Int) (p20 : Int) :
 Xc Try.prog xcfg 400 fSpreadfields [Value.agg { toList := [Value.int IntKind.u32 p0, Value.int IntKind.u32 p1, Value.int IntKind.i64 p2, Value.int IntKind.i64 p3, Value.int IntKind.u32 p4, Value.int IntKind.u32 p5, Value.int IntKind.u64 p6, Value.int IntKind.u64 p7, Value.int IntKind.i64 p8, Value.int IntKind.i64 p9, Value.int IntKind.u64 p10, Value.int IntKind.u32 p11, Value.int IntKind.u64 p12, Value.int IntKind.u32 p13, Value.int IntKind.u32 p14, Value.int IntKind.u32 p15, Value.int IntKind.i64 p16, Value.int IntKind.i64 p17, Value.int IntKind.i64 p18, Value.int IntKind.i64 p19, Value.int IntKind.u64 p20] }] m n Q =
 (memLet (Tr.set m n (AObj.cells none tApiPacket 21 [Value.int IntKind.u32 p0, Value.int IntKind.u32 p1, Value.int IntKind.i64 p2, Value.int IntKind.i64 p3, Value.int IntKind.u32 p4, Value.int IntKind.u32 p5, Value.int IntKind.u64 p6, Value.int IntKind.u64 p7, Value.int IntKind.i64 p8, Value.int IntKind.i64 p9, Value.int IntKind.u64 p10, Value.int IntKind.u32 p11, Value.int IntKind.u64 p12, Value.int IntKind.u32 p13, Value.int IntKind.u32 p14, Value.int IntKind.u32 p15, Value.int IntKind.i64 p16, Value.int IntKind.i64 p17, Value.int IntKind.i64 p18, Value.int IntKind.i64 p19, Value.int IntKind.u64 p20])) fun (m0 : Mem) => Q (Value.func (Fn.func fSpreadfields1) { toList := [] } { toList := [Value.pointer (some { block := n, off := 0 })] }) m0 (n + 1)) := by kernel_rfl

/- 47 leafmesh/spread.Hash$1 -/
theorem xSpreadHash1 (m : Mem) (n : Nat) (Q : Value → Mem → Nat → Prop) (h : Int) (b : Int) :
 Xc Try.prog xcfg 400 fSpreadHash1 [Value.int IntKind.u64 h, Value.int IntKind.u8 b] m n Q =
 (Q (Value.int IntKind.u64 (IntKind.u64.wrap (IntKind.u64.wrap (↑(BitVec.ofInt 64 h ^^^ BitVec.ofInt 64 (IntKind.u64.wrap b)).toNat : Int) * 1099511628211))) m n) := by kernel_rfl

/- 48 leafmesh/leafmeshref11.Bytes -/
theorem xRef11Bytes (m : Mem) (n : Nat) (Q : Value → Mem → Nat → Prop) (p0 : Int) (p1 : Int) (p2 : Int) (p3 : Int) (p4 : Int) (p5 : Int) (p6 : Int) (p7 : Int) (p8 : Int) (p9 : Int) (p10 : Int) (p11 : Int) (p12 : Int) (p13 : Int) (p14 : Int) (p15 : Int) (p16 : Int) (p17 : Int) (p18 : Int) (p19 : Int) (p20 : Int) :
 Xc Try.prog xcfg 400 fRef11Bytes [Value.agg { toList := [Value.int IntKind.u32 p0, Value.int IntKind.u32 p1, Value.int IntKind.i64 p2, Value.int IntKind.i64 p3, Value.int IntKind.u32 p4, Value.int IntKind.u32 p5, Value.int IntKind.u64 p6, Value.int IntKind.u64 p7, Value.int IntKind.i64 p8, Value.int IntKind.i64 p9, Value.int IntKind.u64 p10, Value.int IntKind.u32 p11, Value.int IntKind.u64 p12, Value.int IntKind.u32 p13, Value.int IntKind.u32 p14, Value.int IntKind.u32 p15, Value.int IntKind.i64 p16, Value.int IntKind.i64 p17, Value.int IntKind.i64 p18, Value.int IntKind.i64 p19, Value.int IntKind.u64 p20] }] m n Q =
 (memLet (Tr.set m n (AObj.cells none tApiPacket 21 [Value.int IntKind.u32 p0, Value.int IntKind.u32 p1, Value.int IntKind.i64 p2, Value.int IntKind.i64 p3, Value.int IntKind.u32 p4, Value.int IntKind.u32 p5, Value.int IntKind.u64 p6, Value.int IntKind.u64 p7, Value.int IntKind.i64 p8, Value.int IntKind.i64 p9, Value.int IntKind.u64 p10, Value.int IntKind.u32 p11, Value.int IntKind.u64 p12, Value.int IntKind.u32 p13, Value.int IntKind.u32 p14, Value.int IntKind.u32 p15, Value.int IntKind.i64 p16, Value.int IntKind.i64 p17, Value.int IntKind.i64 p18, Value.int IntKind.i64 p19, Value.int IntKind.u64 p20])) fun (m0 : Mem) =>
 isC m0 n = true ∧
 ∃ (x1 : Int),
 rd m0 n 0 = some (Value.int IntKind.u32 x1) ∧
 isC m0 n = true ∧
 ∃ (x2 : Int),
 rd m0 n 1 = some (Value.int IntKind.u32 x2) ∧
 isC m0 n = true ∧
 ∃ (x3 : Int),
 rd m0 n 3 = some (Value.int IntKind.i64 x3) ∧
 isC m0 n = true ∧
 ∃ (x4 : Int),
 rd m0 n 4 = some (Value.int IntKind.u32 x4) ∧
 (0 : Int) ≤ 24 ∧
 (0 : Int) ≤ 16 ∧
 (0 : Int) ≤ 8 ∧
 (0 : Int) ≤ 24 ∧
 (0 : Int) ≤ 16 ∧
 (0 : Int) ≤ 8 ∧
 (0 : Int) ≤ 8 ∧
 (0 : Int) ≤ 16 ∧
 (0 : Int) ≤ 8 ∧
 memLet
 (Tr.set m0 (n + 1 + 16)
 (AObj.cells none tUint8 1
 [Value.int IntKind.u8 (IntKind.u8.wrap ((IntKind.u64.wrap x1).fdiv 16777216)), Value.int IntKind.u8 (IntKind.u8.wrap ((IntKind.u64.wrap x1).fdiv 65536)), Value.int IntKind.u8 (IntKind.u8.wrap ((IntKind.u64.wrap x1).fdiv 256)), Value.int IntKind.u8 (IntKind.u8.wrap (IntKind.u64.wrap x1)), Value.int IntKind.u8 (IntKind.u8.wrap ((IntKind.u64.wrap x2).fdiv 16777216)), Value.int IntKind.u8 (IntKind.u8.wrap ((IntKind.u64.wrap x2).fdiv 65536)), Value.int IntKind.u8 (IntKind.u8.wrap ((IntKind.u64.wrap x2).fdiv 256)), Value.int IntKind.u8 (IntKind.u8.wrap (IntKind.u64.wrap x2)), Value.int IntKind.u8 (IntKind.u8.wrap ((IntKind.u64.wrap x3).fdiv 256)), Value.int IntKind.u8 (IntKind.u8.wrap (IntKind.u64.wrap x3)), Value.int IntKind.u8 (IntKind.u8.wrap ((IntKind.u64.wrap x4).fdiv 65536)),
 Value.int IntKind.u8 (IntKind.u8.wrap ((IntKind.u64.wrap x4).fdiv 256)), Value.int IntKind.u8 (IntKind.u8.wrap (IntKind.u64.wrap x4))]))
 fun (m5 : Mem) => Q (Value.slice (some { block := n + 1 + 16, off := 0 }) 13 13) m5 (n + 1 + 16 + 1)) := by kernel_rfl

/- 49 math/bits.Mul -/
theorem xMathbitsMul (m : Mem) (n : Nat) (Q : Value → Mem → Nat → Prop) (x : Int) (y : Int) :
 Xc Try.prog xcfg 400 fMathbitsMul [Value.int IntKind.u64 x, Value.int IntKind.u64 y] m n Q =
 (Wc Try.prog fMathbitsMul64 [Value.int IntKind.u64 x, Value.int IntKind.u64 y] m n fun (v0 : Value) (m1 : Mem) (k2 : Nat) => ∃ (x3 : Int), ∃ (x4 : Int), v0 = Value.tuple { toList := [Value.int IntKind.u64 x3, Value.int IntKind.u64 x4] } ∧ Later (Q (Value.tuple { toList := [Value.int IntKind.u64 x3, Value.int IntKind.u64 x4] }) m1 k2)) := by kernel_rfl

/- 50 slices.Index[[]int,int] -/
theorem xSlicesIndexLintint (m : Mem) (n : Nat) (Q : Value → Mem → Nat → Prop) (s_a : Option Addr) (s_l : Nat) (s_c : Nat) (v : Int) :
 Xc Try.prog xcfg 400 fSlicesIndexLintint [Value.slice s_a s_l s_c, Value.int IntKind.i64 v] m n Q =
 (W Try.prog { fn := fSlicesIndexLintint, nt := 19, slots := [(0, Value.slice s_a s_l s_c), (1, Value.int IntKind.i64 v), (7, Value.int IntKind.i64 (↑s_l : Int)), (8, Value.int IntKind.i64 0)], todo := pt Try.prog fSlicesIndexLintint [1, 0, 1, 0, 0] } m n Q) := by kernel_rfl

theorem xSlicesIndexLintintk0 (m : Mem) (n : Nat) (Q : Value → Mem → Nat → Prop) (s_a : Option Addr) (s_l : Nat) (s_c : Nat) (v : Int) (t7 : Int) (t8 : Int) :
 xF (evX Try.prog xcfg 400) { fn := fSlicesIndexLintint, nt := 19, slots := [(0, Value.slice s_a s_l s_c), (1, Value.int IntKind.i64 v), (7, Value.int IntKind.i64 t7), (8, Value.int IntKind.i64 t8)], todo := pt Try.prog fSlicesIndexLintint [1, 0, 1, 0, 0] } m n Q =
 (bif decide (t8 < t7) then elimA s_a False fun (k0 k1 : Nat) (p2 : Option Nat) => (0 ≤ t8 ∧ t8 < (↑s_l : Int) ∧ liveAt m k0 = true ∧ (p2 ≠ none → 0 < s_c)) ∧ ∃ (x3 : Int), rd m k0 (offOf k1 p2 + t8.toNat * 1) = some (Value.int IntKind.i64 x3) ∧ bif v == x3 then Q (Value.int IntKind.i64 t8) m n else W Try.prog { fn := fSlicesIndexLintint, nt := 19, slots := [(0, Value.slice s_a s_l s_c), (1, Value.int IntKind.i64 v), (7, Value.int IntKind.i64 t7), (8, Value.int IntKind.i64 (IntKind.i64.wrap (t8 + 1)))], todo := pt Try.prog fSlicesIndexLintint [1, 0, 1, 0, 0] } m n Q else Q (Value.int IntKind.i64 (-1)) m n) := by kernel_rfl

/- 51 slices.MinFunc[[]int,int] -/
theorem xSlicesMinFuncLintint (m : Mem) (n : Nat) (Q : Value → Mem → Nat → Prop) (x_a : Option Addr) (x_l : Nat) (x_c : Nat) (cmp_g : Nat) (cmp_f : List Value) (cmp_k : List Value) :
 Xc Try.prog xcfg 400 fSlicesMinFuncLintint [Value.slice x_a x_l x_c, Value.func (Fn.func cmp_g) { toList := cmp_f } { toList := cmp_k }] m n Q =
 (bif decide ((↑x_l : Int) < 1) then False else elimA x_a False fun (k0 k1 : Nat) (p2 : Option Nat) => ((0 : Int) ≤ 0 ∧ 0 < (↑x_l : Int) ∧ liveAt m k0 = true ∧ (p2 ≠ none → 0 < x_c)) ∧ ∃ (x3 : Int), rd m k0 (offOf k1 p2 + 0) = some (Value.int IntKind.i64 x3) ∧ W Try.prog { fn := fSlicesMinFuncLintint, nt := 33, slots := [(0, Value.slice x_a x_l x_c), (1, Value.func (Fn.func cmp_g) { toList := cmp_f } { toList := cmp_k }), (5, Value.int IntKind.i64 x3), (6, Value.int IntKind.i64 1)], todo := pt Try.prog fSlicesMinFuncLintint [1, 1, 1, 0, 1, 0, 0] } m n Q) := by kernel_rfl

theorem xSlicesMinFuncLintintk0 (m : Mem) (n : Nat) (Q : Value → Mem → Nat → Prop) (x_a : Option Addr) (x_l : Nat) (x_c : Nat) (cmp_g : Nat) (cmp_f : List Value) (cmp_k : List Value) (m' : Int) (i : Int) :
 xF (evX Try.prog xcfg 400) { fn := fSlicesMinFuncLintint, nt := 33, slots := [(0, Value.slice x_a x_l x_c), (1, Value.func (Fn.func cmp_g) { toList := cmp_f } { toList := cmp_k }), (5, Value.int IntKind.i64 m'), (6, Value.int IntKind.i64 i)], todo := pt Try.prog fSlicesMinFuncLintint [1, 1, 1, 0, 1, 0, 0] } m n Q =
 (bif decide (i < (↑x_l : Int)) then
 elimA x_a False fun (k0 k1 : Nat) (p2 : Option Nat) =>
 (0 ≤ i ∧ i < (↑x_l : Int) ∧ liveAt m k0 = true ∧ (p2 ≠ none → 0 < x_c)) ∧
 ∃ (x3 : Int),
 rd m k0 (offOf k1 p2 + i.toNat * 1) = some (Value.int IntKind.i64 x3) ∧
 Wc Try.prog cmp_g (cmp_f ++ [Value.int IntKind.i64 x3, Value.int IntKind.i64 m'] ++ cmp_k) m n fun (v4 : Value) (m5 : Mem) (k6 : Nat) =>
 ∃ (x7 : Int),
 v4 = Value.int IntKind.i64 x7 ∧
 Later
 (bif decide (x7 < 0) then elimA x_a False fun (k8 k9 : Nat) (p10 : Option Nat) => (0 ≤ i ∧ i < (↑x_l : Int) ∧ liveAt m5 k8 = true ∧ (p10 ≠ none → 0 < x_c)) ∧ ∃ (x11 : Int), rd m5 k8 (offOf k9 p10 + i.toNat * 1) = some (Value.int IntKind.i64 x11) ∧ W Try.prog { fn := fSlicesMinFuncLintint, nt := 33, slots := [(0, Value.slice x_a x_l x_c), (1, Value.func (Fn.func cmp_g) { toList := cmp_f } { toList := cmp_k }), (5, Value.int IntKind.i64 x11), (6, Value.int IntKind.i64 (IntKind.i64.wrap (i + 1)))], todo := pt Try.prog fSlicesMinFuncLintint [1, 1, 1, 0, 1, 0, 0] } m5 k6 Q
 else W Try.prog { fn := fSlicesMinFuncLintint, nt := 33, slots := [(0, Value.slice x_a x_l x_c), (1, Value.func (Fn.func cmp_g) { toList := cmp_f } { toList := cmp_k }), (5, Value.int IntKind.i64 m'), (6, Value.int IntKind.i64 (IntKind.i64.wrap (i + 1)))], todo := pt Try.prog fSlicesMinFuncLintint [1, 1, 1, 0, 1, 0, 0] } m5 k6 Q)
 else Q (Value.int IntKind.i64 m') m n) := by kernel_rfl

/- 52 (*leafmesh/spread.state).least$1 -/
theorem xSpreadstateleast1 (m : Mem) (n : Nat) (Q : Value → Mem → Nat → Prop) (a : Int) (b : Int) (t2 : Nat) :
 Xc Try.prog xcfg 400 fSpreadstateleast1 [Value.int IntKind.i64 a, Value.int IntKind.i64 b, Value.pointer (some { block := t2, off := 0 })] m n Q =
 (∃ (p0 : Option Addr), rd m t2 0 = some (Value.pointer p0) ∧ ∃ (x1 : Int), ∃ (m2 : Mem), ∃ (k3 : Nat), (Wc Try.prog fSpreadstateload [Value.pointer p0, Value.int IntKind.i64 a] m (n + 8) fun (v4 : Value) (m5 : Mem) (k6 : Nat) => v4 = Value.int IntKind.i64 x1 ∧ m5 = m2 ∧ k6 = k3) ∧ Later (∃ (p7 : Option Addr), rd m2 t2 0 = some (Value.pointer p7) ∧ ∃ (x8 : Int), ∃ (m9 : Mem), ∃ (k10 : Nat), (Wc Try.prog fSpreadstateload [Value.pointer p7, Value.int IntKind.i64 b] m2 k3 fun (v11 : Value) (m12 : Mem) (k13 : Nat) => v11 = Value.int IntKind.i64 x8 ∧ m12 = m9 ∧ k13 = k10) ∧ Later ((∃ (p14 : Option Addr), rd m t2 0 = some (Value.pointer p14) ∧ Value.pointer p14 = Value.pointer p7) ∧ n + 8 ≤ k3 ∧ n + 8 ≤ k10 ∧ Q (Value.int IntKind.i64 (IntKind.i64.wrap (x1 - x8))) m9 k10))) := by kernel_rfl

/- 53 slices.Reverse[[]int,int] -/
theorem xSlicesReverseLintint (m : Mem) (n : Nat) (Q : Value → Mem → Nat → Prop) (s_a : Option Addr) (s_l : Nat) (s_c : Nat) :
 Xc Try.prog xcfg 400 fSlicesReverseLintint [Value.slice s_a s_l s_c] m n Q =
 (W Try.prog { fn := fSlicesReverseLintint, nt := 28, slots := [(0, Value.slice s_a s_l s_c), (2, Value.int IntKind.i64 0), (3, Value.int IntKind.i64 (IntKind.i64.wrap ((↑s_l : Int) - 1)))], todo := pt Try.prog fSlicesReverseLintint [1, 0, 0] } m n Q) := by kernel_rfl

theorem xSlicesReverseLintintk0 (m : Mem) (n : Nat) (Q : Value → Mem → Nat → Prop) (s_a : Option Addr) (s_l : Nat) (s_c : Nat) (i : Int) (j : Int) :
 xF (evX Try.prog xcfg 400) { fn := fSlicesReverseLintint, nt := 28, slots := [(0, Value.slice s_a s_l s_c), (2, Value.int IntKind.i64 i), (3, Value.int IntKind.i64 j)], todo := pt Try.prog fSlicesReverseLintint [1, 0, 0] } m n Q =
 (bif decide (i < j) then
 elimA s_a False fun (k0 k1 : Nat) (p2 : Option Nat) =>
 (0 ≤ j ∧ j < (↑s_l : Int) ∧ liveAt m k0 = true ∧ (p2 ≠ none → 0 < s_c)) ∧
 ∃ (x3 : Int),
 rd m k0 (offOf k1 p2 + j.toNat * 1) = some (Value.int IntKind.i64 x3) ∧
 elimA s_a False fun (k4 k5 : Nat) (p6 : Option Nat) =>
 (0 ≤ i ∧ i < (↑s_l : Int) ∧ liveAt m k4 = true ∧ (p6 ≠ none → 0 < s_c)) ∧
 ∃ (x7 : Int), rd m k4 (offOf k5 p6 + i.toNat * 1) = some (Value.int IntKind.i64 x7) ∧ elimA s_a False fun (k8 k9 : Nat) (p10 : Option Nat) => (0 ≤ i ∧ i < (↑s_l : Int) ∧ liveAt m k8 = true ∧ (p10 ≠ none → 0 < s_c)) ∧ ∃ (m11 : Mem), storeCs m k8 (offOf k9 p10 + i.toNat * 1) [Value.int IntKind.i64 x3] = some m11 ∧ elimA s_a False fun (k12 k13 : Nat) (p14 : Option Nat) => (0 ≤ j ∧ j < (↑s_l : Int) ∧ liveAt m11 k12 = true ∧ (p14 ≠ none → 0 < s_c)) ∧ ∃ (m15 : Mem), storeCs m11 k12 (offOf k13 p14 + j.toNat * 1) [Value.int IntKind.i64 x7] = some m15 ∧ n + 16 ≤ n + 16 ∧ n + 16 ≤ n + 16 ∧ W Try.prog { fn := fSlicesReverseLintint, nt := 28, slots := [(0, Value.slice s_a s_l s_c), (2, Value.int IntKind.i64 (IntKind.i64.wrap (i + 1))), (3, Value.int IntKind.i64 (IntKind.i64.wrap (j - 1)))], todo := pt Try.prog fSlicesReverseLintint [1, 0, 0] } m15 (n + 16) Q
 else Q (Value.tuple { toList := [] }) m n) := by kernel_rfl

/- 54 slices.MaxFunc[[]int,int] -/
theorem xSlicesMaxFuncLintint (m : Mem) (n : Nat) (Q : Value → Mem → Nat → Prop) (x_a : Option Addr) (x_l : Nat) (x_c : Nat) (cmp_g : Nat) (cmp_f : List Value) (cmp_k : List Value) :
 Xc Try.prog xcfg 400 fSlicesMaxFuncLintint [Value.slice x_a x_l x_c, Value.func (Fn.func cmp_g) { toList := cmp_f } { toList := cmp_k }] m n Q =
 (bif decide ((↑x_l : Int) < 1) then False else elimA x_a False fun (k0 k1 : Nat) (p2 : Option Nat) => ((0 : Int) ≤ 0 ∧ 0 < (↑x_l : Int) ∧ liveAt m k0 = true ∧ (p2 ≠ none → 0 < x_c)) ∧ ∃ (x3 : Int), rd m k0 (offOf k1 p2 + 0) = some (Value.int IntKind.i64 x3) ∧ W Try.prog { fn := fSlicesMaxFuncLintint, nt := 33, slots := [(0, Value.slice x_a x_l x_c), (1, Value.func (Fn.func cmp_g) { toList := cmp_f } { toList := cmp_k }), (5, Value.int IntKind.i64 x3), (6, Value.int IntKind.i64 1)], todo := pt Try.prog fSlicesMaxFuncLintint [1, 1, 1, 0, 1, 0, 0] } m n Q) := by kernel_rfl

theorem xSlicesMaxFuncLintintk0 (m : Mem) (n : Nat) (Q : Value → Mem → Nat → Prop) (x_a : Option Addr) (x_l : Nat) (x_c : Nat) (cmp_g : Nat) (cmp_f : List Value) (cmp_k : List Value) (m' : Int) (i : Int) :
 xF (evX Try.prog xcfg 400) { fn := fSlicesMaxFuncLintint, nt := 33, slots := [(0, Value.slice x_a x_l x_c), (1, Value.func (Fn.func cmp_g) { toList := cmp_f } { toList := cmp_k }), (5, Value.int IntKind.i64 m'), (6, Value.int IntKind.i64 i)], todo := pt Try.prog fSlicesMaxFuncLintint [1, 1, 1, 0, 1, 0, 0] } m n Q =
 (bif decide (i < (↑x_l : Int)) then
 elimA x_a False fun (k0 k1 : Nat) (p2 : Option Nat) =>
 (0 ≤ i ∧ i < (↑x_l : Int) ∧ liveAt m k0 = true ∧ (p2 ≠ none → 0 < x_c)) ∧
 ∃ (x3 : Int),
 rd m k0 (offOf k1 p2 + i.toNat * 1) = some (Value.int IntKind.i64 x3) ∧
 Wc Try.prog cmp_g (cmp_f ++ [Value.int IntKind.i64 x3, Value.int IntKind.i64 m'] ++ cmp_k) m n fun (v4 : Value) (m5 : Mem) (k6 : Nat) =>
 ∃ (x7 : Int),
 v4 = Value.int IntKind.i64 x7 ∧
 Later
 (bif decide (x7 > 0) then elimA x_a False fun (k8 k9 : Nat) (p10 : Option Nat) => (0 ≤ i ∧ i < (↑x_l : Int) ∧ liveAt m5 k8 = true ∧ (p10 ≠ none → 0 < x_c)) ∧ ∃ (x11 : Int), rd m5 k8 (offOf k9 p10 + i.toNat * 1) = some (Value.int IntKind.i64 x11) ∧ W Try.prog { fn := fSlicesMaxFuncLintint, nt := 33, slots := [(0, Value.slice x_a x_l x_c), (1, Value.func (Fn.func cmp_g) { toList := cmp_f } { toList := cmp_k }), (5, Value.int IntKind.i64 x11), (6, Value.int IntKind.i64 (IntKind.i64.wrap (i + 1)))], todo := pt Try.prog fSlicesMaxFuncLintint [1, 1, 1, 0, 1, 0, 0] } m5 k6 Q
 else W Try.prog { fn := fSlicesMaxFuncLintint, nt := 33, slots := [(0, Value.slice x_a x_l x_c), (1, Value.func (Fn.func cmp_g) { toList := cmp_f } { toList := cmp_k }), (5, Value.int IntKind.i64 m'), (6, Value.int IntKind.i64 (IntKind.i64.wrap (i + 1)))], todo := pt Try.prog fSlicesMaxFuncLintint [1, 1, 1, 0, 1, 0, 0] } m5 k6 Q)
 else Q (Value.int IntKind.i64 m') m n) := by kernel_rfl

/- 55 (*leafmesh/spread.state).most$1 -/
theorem xSpreadstatemost1 (m : Mem) (n : Nat) (Q : Value → Mem → Nat → Prop) (a : Int) (b : Int) (t2 : Nat) :
 Xc Try.prog xcfg 400 fSpreadstatemost1 [Value.int IntKind.i64 a, Value.int IntKind.i64 b, Value.pointer (some { block := t2, off := 0 })] m n Q =
 (∃ (p0 : Option Addr), rd m t2 0 = some (Value.pointer p0) ∧ ∃ (x1 : Int), ∃ (m2 : Mem), ∃ (k3 : Nat), (Wc Try.prog fSpreadstateload [Value.pointer p0, Value.int IntKind.i64 a] m (n + 8) fun (v4 : Value) (m5 : Mem) (k6 : Nat) => v4 = Value.int IntKind.i64 x1 ∧ m5 = m2 ∧ k6 = k3) ∧ Later (∃ (p7 : Option Addr), rd m2 t2 0 = some (Value.pointer p7) ∧ ∃ (x8 : Int), ∃ (m9 : Mem), ∃ (k10 : Nat), (Wc Try.prog fSpreadstateload [Value.pointer p7, Value.int IntKind.i64 b] m2 k3 fun (v11 : Value) (m12 : Mem) (k13 : Nat) => v11 = Value.int IntKind.i64 x8 ∧ m12 = m9 ∧ k13 = k10) ∧ Later ((∃ (p14 : Option Addr), rd m t2 0 = some (Value.pointer p14) ∧ Value.pointer p14 = Value.pointer p7) ∧ n + 8 ≤ k3 ∧ n + 8 ≤ k10 ∧ Q (Value.int IntKind.i64 (IntKind.i64.wrap (x1 - x8))) m9 k10))) := by kernel_rfl

/- 56 slices.Backward[[]int,int]$1 -/
theorem xSlicesBackwardLintint1 (m : Mem) (n : Nat) (Q : Value → Mem → Nat → Prop) (yieldY : Nat) (t1 : Nat) :
 Xc Try.prog xcfg 400 fSlicesBackwardLintint1 [Value.func (Fn.yield yieldY) { toList := [] } { toList := [] }, Value.pointer (some { block := t1, off := 0 })] m n Q =
 (∃ (p0 : Option Addr), ∃ (k1 : Nat), ∃ (k2 : Nat), rd m t1 0 = some (Value.slice p0 k1 k2) ∧ W Try.prog { fn := fSlicesBackwardLintint1, nt := 19, slots := [(0, Value.func (Fn.yield yieldY) { toList := [] } { toList := [] }), (1, Value.pointer (some { block := t1, off := 0 })), (3, Value.int IntKind.i64 (IntKind.i64.wrap ((↑k1 : Int) - 1)))], todo := pt Try.prog fSlicesBackwardLintint1 [1, 0, 0] } m n Q) := by kernel_rfl

theorem xSlicesBackwardLintint1k0 (m : Mem) (n : Nat) (Q : Value → Mem → Nat → Prop) (yieldY : Nat) (t1 : Nat) (i : Int) :
 xF (evX Try.prog xcfg 400) { fn := fSlicesBackwardLintint1, nt := 19, slots := [(0, Value.func (Fn.yield yieldY) { toList := [] } { toList := [] }), (1, Value.pointer (some { block := t1, off := 0 })), (3, Value.int IntKind.i64 i)], todo := pt Try.prog fSlicesBackwardLintint1 [1, 0, 0] } m n Q =
 (bif decide (i ≥ 0) then ∃ (p0 : Option Addr), ∃ (k1 : Nat), ∃ (k2 : Nat), rd m t1 0 = some (Value.slice p0 k1 k2) ∧ elimA p0 False fun (k3 k4 : Nat) (p5 : Option Nat) => (0 ≤ i ∧ i < (↑k1 : Int) ∧ liveAt m k3 = true ∧ (p5 ≠ none → 0 < k2)) ∧ ∃ (x6 : Int), rd m k3 (offOf k4 p5 + i.toNat * 1) = some (Value.int IntKind.i64 x6) ∧ ∃ (y7 : AFrame), roundA m yieldY [Value.int IntKind.i64 i, Value.int IntKind.i64 x6] = some y7 ∧ W Try.prog y7 m n fun (v8 : Value) (m9 : Mem) (k10 : Nat) => ∃ (b11 : Bool), v8 = Value.bool b11 ∧ Later (bif !b11 then Q (Value.tuple { toList := [] }) m9 k10 else W Try.prog { fn := fSlicesBackwardLintint1, nt := 19, slots := [(0, Value.func (Fn.yield yieldY) { toList := [] } { toList := [] }), (1, Value.pointer (some { block := t1, off := 0 })), (3, Value.int IntKind.i64 (IntKind.i64.wrap (i - 1)))], todo := pt Try.prog fSlicesBackwardLintint1 [1, 0, 0] } m9 k10 Q)
 else Q (Value.tuple { toList := [] }) m n) := by kernel_rfl

/- 57 leafmesh/spread.fields$1 -/
theorem xSpreadfields1 (m : Mem) (n : Nat) (Q : Value → Mem → Nat → Prop) (yieldY : Nat) (t1 : Nat) :
 Xc Try.prog xcfg 400 fSpreadfields1 [Value.func (Fn.yield yieldY) { toList := [] } { toList := [] }, Value.pointer (some { block := t1, off := 0 })] m n Q =
 (isC m t1 = true ∧
 ∃ (x0 : Int),
 rd m t1 0 = some (Value.int IntKind.u32 x0) ∧
 isC m t1 = true ∧
 ∃ (x1 : Int), rd m t1 1 = some (Value.int IntKind.u32 x1) ∧ isC m t1 = true ∧ ∃ (x2 : Int), rd m t1 3 = some (Value.int IntKind.i64 x2) ∧ isC m t1 = true ∧ ∃ (x3 : Int), rd m t1 4 = some (Value.int IntKind.u32 x3) ∧ memLet (Tr.set m n (AObj.cells none tStructvalueuint64sizeint 2 [Value.int IntKind.u64 (IntKind.u64.wrap x0), Value.int IntKind.i64 4, Value.int IntKind.u64 (IntKind.u64.wrap x1), Value.int IntKind.i64 4, Value.int IntKind.u64 (IntKind.u64.wrap x2), Value.int IntKind.i64 2, Value.int IntKind.u64 (IntKind.u64.wrap x3), Value.int IntKind.i64 3])) fun (m4 : Mem) => W Try.prog { fn := fSpreadfields1, nt := 45, slots := [(0, Value.func (Fn.yield yieldY) { toList := [] } { toList := [] }), (22, Value.slice (some { block := n, off := 0 }) 4 4), (23, Value.int IntKind.i64 4), (24, Value.int IntKind.i64 0)], todo := pt Try.prog fSpreadfields1 [1, 0, 0] } m4 (n + 1) Q) := by kernel_rfl

theorem xSpreadfields1k0 (m : Mem) (n : Nat) (Q : Value → Mem → Nat → Prop) (yieldY : Nat) (t22_a : Option Addr) (t22_l : Nat) (t22_c : Nat) (t24 : Int) :
 xF (evX Try.prog xcfg 400) { fn := fSpreadfields1, nt := 45, slots := [(0, Value.func (Fn.yield yieldY) { toList := [] } { toList := [] }), (22, Value.slice t22_a t22_l t22_c), (23, Value.int IntKind.i64 4), (24, Value.int IntKind.i64 t24)], todo := pt Try.prog fSpreadfields1 [1, 0, 0] } m n Q =
 (bif decide (t24 < 4) then
 elimA t22_a False fun (k0 k1 : Nat) (p2 : Option Nat) =>
 (0 ≤ t24 ∧ t24 < (↑t22_l : Int) ∧ liveAt m k0 = true ∧ (p2 ≠ none → 0 < t22_c)) ∧
 ∃ (x3 : Int), ∃ (x4 : Int), rds m k0 (offOf k1 p2 + t24.toNat * 2) 2 = some [Value.int IntKind.u64 x3, Value.int IntKind.i64 x4] ∧ memLet (Tr.set m n (AObj.cells none tStructvalueuint64sizeint 2 [Value.int IntKind.u64 0, Value.int IntKind.i64 0])) fun (m5 : Mem) => ∃ (m6 : Mem), storeCs m5 n 0 [Value.int IntKind.u64 x3, Value.int IntKind.i64 x4] = some m6 ∧ isC m6 n = true ∧ ∃ (x7 : Int), rd m6 n 1 = some (Value.int IntKind.i64 x7) ∧ W Try.prog { fn := fSpreadfields1, nt := 45, slots := [(0, Value.func (Fn.yield yieldY) { toList := [] } { toList := [] }), (4, Value.pointer (some { block := n, off := 0 })), (5, Value.int IntKind.i64 (IntKind.i64.wrap (x7 - 1))), (22, Value.slice t22_a t22_l t22_c), (23, Value.int IntKind.i64 4), (24, Value.int IntKind.i64 t24)], todo := pt Try.prog fSpreadfields1 [1, 0, 0, 1, 1, 0, 0, 1, 1, 0, 0] } m6 (n + 1) Q
 else Q (Value.tuple { toList := [] }) m n) := by kernel_rfl

theorem xSpreadfields1k1 (m : Mem) (n : Nat) (Q : Value → Mem → Nat → Prop) (yieldY : Nat) (t22_a : Option Addr) (t22_l : Nat) (t22_c : Nat) (t24 : Int) (x : Nat) (i : Int) :
 xF (evX Try.prog xcfg 400) { fn := fSpreadfields1, nt := 45, slots := [(0, Value.func (Fn.yield yieldY) { toList := [] } { toList := [] }), (4, Value.pointer (some { block := x, off := 0 })), (5, Value.int IntKind.i64 i), (22, Value.slice t22_a t22_l t22_c), (23, Value.int IntKind.i64 4), (24, Value.int IntKind.i64 t24)], todo := pt Try.prog fSpreadfields1 [1, 0, 0, 1, 1, 0, 0, 1, 1, 0, 0] } m n Q =
 (bif decide (i ≥ 0) then isC m x = true ∧ ∃ (x0 : Int), rd m x 0 = some (Value.int IntKind.u64 x0) ∧ 0 ≤ IntKind.i64.wrap (8 * i) ∧ ∃ (y1 : AFrame), roundA m yieldY [Value.int IntKind.u8 (IntKind.u8.wrap (x0.fdiv (2 ^ min (IntKind.i64.wrap (8 * i)).toNat 64)))] = some y1 ∧ W Try.prog y1 m n fun (v2 : Value) (m3 : Mem) (k4 : Nat) => ∃ (b5 : Bool), v2 = Value.bool b5 ∧ Later (bif !b5 then Q (Value.tuple { toList := [] }) m3 k4 else W Try.prog { fn := fSpreadfields1, nt := 45, slots := [(0, Value.func (Fn.yield yieldY) { toList := [] } { toList := [] }), (4, Value.pointer (some { block := x, off := 0 })), (5, Value.int IntKind.i64 (IntKind.i64.wrap (i - 1))), (22, Value.slice t22_a t22_l t22_c), (23, Value.int IntKind.i64 4), (24, Value.int IntKind.i64 t24)], todo := pt Try.prog fSpreadfields1 [1, 0, 0, 1, 1, 0, 0, 1, 1, 0, 0] } m3 k4 Q)
 else W Try.prog { fn := fSpreadfields1, nt := 45, slots := [(0, Value.func (Fn.yield yieldY) { toList := [] } { toList := [] }), (22, Value.slice t22_a t22_l t22_c), (23, Value.int IntKind.i64 4), (24, Value.int IntKind.i64 (IntKind.i64.wrap (t24 + 1)))], todo := pt Try.prog fSpreadfields1 [1, 0, 0] } m n Q) := by kernel_rfl

/- 58 math/bits.Mul32 -/
theorem xMathbitsMul32 (m : Mem) (n : Nat) (Q : Value → Mem → Nat → Prop) (x : Int) (y : Int) :
 Xc Try.prog xcfg 400 fMathbitsMul32 [Value.int IntKind.u32 x, Value.int IntKind.u32 y] m n Q =
 ((0 : Int) ≤ 32 ∧ Q (Value.tuple { toList := [Value.int IntKind.u32 (IntKind.u32.wrap ((IntKind.u64.wrap (IntKind.u64.wrap x * IntKind.u64.wrap y)).fdiv 4294967296)), Value.int IntKind.u32 (IntKind.u32.wrap (IntKind.u64.wrap (IntKind.u64.wrap x * IntKind.u64.wrap y)))] }) m n) := by kernel_rfl

/- 59 math/bits.Mul64 -/
theorem xMathbitsMul64 (m : Mem) (n : Nat) (Q : Value → Mem → Nat → Prop) (x : Int) (y : Int) :
 Xc Try.prog xcfg 400 fMathbitsMul64 [Value.int IntKind.u64 x, Value.int IntKind.u64 y] m n Q =
 ((0 : Int) ≤ 32 ∧
 (0 : Int) ≤ 32 ∧
 (0 : Int) ≤ 32 ∧
 (0 : Int) ≤ 32 ∧
 (0 : Int) ≤ 32 ∧
 Q
 (Value.tuple
 { toList :=
 [Value.int IntKind.u64
 (IntKind.u64.wrap
 (IntKind.u64.wrap (IntKind.u64.wrap (x.fdiv 4294967296 * y.fdiv 4294967296) + (IntKind.u64.wrap (IntKind.u64.wrap (x.fdiv 4294967296 * IntKind.u64.wrap (↑(BitVec.ofInt 64 y &&& BitVec.ofInt 64 4294967295).toNat : Int)) + (IntKind.u64.wrap (IntKind.u64.wrap (↑(BitVec.ofInt 64 x &&& BitVec.ofInt 64 4294967295).toNat : Int) * IntKind.u64.wrap (↑(BitVec.ofInt 64 y &&& BitVec.ofInt 64 4294967295).toNat : Int))).fdiv 4294967296)).fdiv 4294967296) +
 (IntKind.u64.wrap (IntKind.u64.wrap (↑(BitVec.ofInt 64 (IntKind.u64.wrap (IntKind.u64.wrap (x.fdiv 4294967296 * IntKind.u64.wrap (↑(BitVec.ofInt 64 y &&& BitVec.ofInt 64 4294967295).toNat : Int)) + (IntKind.u64.wrap (IntKind.u64.wrap (↑(BitVec.ofInt 64 x &&& BitVec.ofInt 64 4294967295).toNat : Int) * IntKind.u64.wrap (↑(BitVec.ofInt 64 y &&& BitVec.ofInt 64 4294967295).toNat : Int))).fdiv 4294967296)) &&& BitVec.ofInt 64 4294967295).toNat : Int) + IntKind.u64.wrap (IntKind.u64.wrap (↑(BitVec.ofInt 64 x &&& BitVec.ofInt 64 4294967295).toNat : Int) * y.fdiv 4294967296))).fdiv 4294967296)),
 Value.int IntKind.u64 (IntKind.u64.wrap (x * y))] })
 m n) := by kernel_rfl


end Go.Proofs.Ytblijemhmpfihaa
