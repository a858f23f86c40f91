/- E14: what parts of the program compute; helper of the claim. -/
import Derived.Test.YtiomjekkmjinbaaProg
import Derived.KernelRfl
import Derived.Test.YtiomjekkmjinbaaAb33
namespace Go.Proofs.Ytiomjekkmjinbaa
open Go Go.Ab
set_option maxRecDepth 100000
abbrev fLaw14FibOf : Nat := 3
abbrev fLaw14FibKnown : Nat := 4
abbrev fLaw14FibDelivers : Nat := 5
abbrev fLaw14FibReach : Nat := 6
abbrev fLaw14FibNone : Nat := 7
abbrev fLaw14awake : Nat := 8
abbrev fKitOwnapiLink : Nat := 9
abbrev fKitOwnbool : Nat := 10
abbrev fLaw14entries : Nat := 11
abbrev fFibOf : Nat := 12
abbrev fRef14Of : Nat := 13
abbrev fKitSameapiLink : Nat := 14
abbrev fKitSamebool : Nat := 15
abbrev fLaw14square : Nat := 16
abbrev fFibNew : Nat := 17
abbrev fFibFibReach : Nat := 18
abbrev fLaw14refused : Nat := 19
abbrev fLaw14loop : Nat := 20
abbrev fFibFibUpdate : Nat := 21
abbrev fKitSameapiIP : Nat := 22
abbrev fKitSameint : Nat := 23
abbrev fFibFibLookup : Nat := 24
abbrev fLaw14tables : Nat := 25
abbrev fKitPick : Nat := 26
abbrev fSpfDist : Nat := 27
abbrev fLaw14walk : Nat := 28
abbrev fSpfNext : Nat := 29
abbrev fKitHasapiIP : Nat := 30
abbrev fFibFibForward : Nat := 31
abbrev fFibFibEntries : Nat := 32
abbrev fFibFibCopy : Nat := 33
abbrev fAddrLoopback : Nat := 34
abbrev fRef10Valid : Nat := 35
abbrev fRef10Next : Nat := 36
abbrev fRef14loopback : Nat := 37
abbrev fKitHasint : Nat := 38
abbrev fSlicesCloneLapiLinkapiLink : Nat := 39
abbrev fFibFibvalid : Nat := 40
abbrev fFibstatewheel : Nat := 41
abbrev fSpreadWheelSet : Nat := 42
abbrev fFibstatefind : Nat := 43
abbrev fSlicesCloneLintint : Nat := 44
abbrev fSpfvalid : Nat := 45
abbrev fSlicesRepeatLintint : Nat := 46
abbrev fSpfqueueLen : Nat := 47
abbrev fContainerheapPop : Nat := 48
abbrev fSpffilterapiLink : Nat := 49
abbrev fSpfother : Nat := 50
abbrev fContainerheapPush : Nat := 51
abbrev fAddrNode : Nat := 52
abbrev fFibFibForward1 : Nat := 53
abbrev fFibFibForward2 : Nat := 54
abbrev fFibFibForward3 : Nat := 55
abbrev fSpreadWheelPick : Nat := 56
abbrev fSpreadHash : Nat := 57
abbrev fSpreadWheelCopy : Nat := 58
abbrev fRef09Valid : Nat := 59
abbrev fRef10Dist : Nat := 60
abbrev fRef10Other : Nat := 61
abbrev fRef01Loopback : Nat := 62
abbrev fSpreadNew : Nat := 63
abbrev fSpreadWheelvalid : Nat := 64
abbrev fSlicesContainsLintint : Nat := 65
abbrev fSpreadstateleast : Nat := 66
abbrev fSpreadstateload : Nat := 67
abbrev fSpreadstatemost : Nat := 68
abbrev fSlicesBackwardLintint : Nat := 69
abbrev fSlicesBinarySearchFuncLfibentryfibentryapiIP : Nat := 70
abbrev fFibentrycompare : Nat := 71
abbrev fSpfvalid1 : Nat := 72
abbrev fSlicesContainsFuncLintint : Nat := 73
abbrev fSpfvalid2 : Nat := 74
abbrev fMathbitsMul : Nat := 75
abbrev fContainerheapdown : Nat := 76
abbrev fSpffilterapiLink1 : Nat := 77
abbrev fContainerheapup : Nat := 78
abbrev fSpreadfoldbyteuint64 : Nat := 79
abbrev fSpreadfields : Nat := 80
abbrev fSpreadHash1 : Nat := 81
abbrev fSlicesIndexLintint : Nat := 82
abbrev fSlicesMinFuncLintint : Nat := 83
abbrev fSpreadstateleast1 : Nat := 84
abbrev fSlicesReverseLintint : Nat := 85
abbrev fSlicesMaxFuncLintint : Nat := 86
abbrev fSpreadstatemost1 : Nat := 87
abbrev fSlicesBackwardLintint1 : Nat := 88
abbrev fCmpCompareapiIP : Nat := 89
abbrev fSlicesIndexFuncLintint : Nat := 90
abbrev fMathbitsMul32 : Nat := 91
abbrev fMathbitsMul64 : Nat := 92
abbrev fSpreadfields1 : Nat := 93
abbrev fCmpisNaNapiIP : Nat := 94
abbrev fSpfqueueLess : Nat := 112
abbrev fSpfqueuePop : Nat := 113
abbrev fSpfqueuePush : Nat := 114
abbrev fSpfqueueSwap : Nat := 115
abbrev t : Nat := 0
abbrev tFunc : Nat := 1
abbrev tInt64 : Nat := 2
abbrev tInt : Nat := 3
abbrev tBool : Nat := 4
abbrev tUint8 : Nat := 5
abbrev tAbiBoundsErrorCode : Nat := 6
abbrev tStructxint64yintsignedboolcodeabiBoundsErrorCode : Nat := 7
abbrev tRuntimeboundsError : Nat := 8
abbrev tString : Nat := 9
abbrev tRuntimeerrorString : Nat := 10
abbrev tRuntimeplainError : Nat := 11
abbrev tUintptr : Nat := 12
abbrev tStructmsgstringaddruintptr : Nat := 13
abbrev tRuntimeerrorAddressString : Nat := 14
abbrev tPruntimeTypeAssertionError : Nat := 15
abbrev tPruntimePanicNilError : Nat := 16
abbrev tPabiType : Nat := 17
abbrev tStructtypPabiType : Nat := 18
abbrev tMapsunhashableTypeError : Nat := 19
abbrev tInterface : Nat := 20
abbrev tInt32 : Nat := 21
abbrev tLapiLink : Nat := 22
abbrev tLbool : Nat := 23
abbrev tFuncbool : Nat := 24
abbrev tFuncLapiLinkLapiLink : Nat := 25
abbrev tStructAintBintCostint : Nat := 26
abbrev tApiLink : Nat := 27
abbrev tFuncLboolLbool : Nat := 28
abbrev tFuncLapiEntryLapiEntrybool : Nat := 29
abbrev tLapiEntry : Nat := 30
abbrev tFuncintLapiLinkLboolintLapiEntry : Nat := 31
abbrev tFuncLapiLinkLapiLinkbool : Nat := 32
abbrev tFuncLboolLboolbool : Nat := 33
abbrev tFuncintLapiLinkLboolintbool : Nat := 34
abbrev tLapiLinkLbool : Nat := 35
abbrev tFuncintLapiLinkLbool : Nat := 36
abbrev tPfibFib : Nat := 37
abbrev tApiErrno : Nat := 38
abbrev tFibFibapiErrno : Nat := 39
abbrev tFuncintLapiLinkintfibFibapiErrno : Nat := 40
abbrev tLapiIP : Nat := 41
abbrev tFuncLapiIP : Nat := 42
abbrev tFuncfibFibapiPacketapiErrnobool : Nat := 43
abbrev tUint32 : Nat := 44
abbrev tApiIP : Nat := 45
abbrev tFuncintapiIP : Nat := 46
abbrev tUint64 : Nat := 47
abbrev tApiMAC : Nat := 48
abbrev tStructOpintSenderMACapiMACSenderIPapiIPTargetMACapiMACTargetIPapiIP : Nat := 49
abbrev tApiARP : Nat := 50
abbrev tStructSrcapiIPDstapiIPTTLintProtointSrcPortintDstPortint : Nat := 51
abbrev tApiHead : Nat := 52
abbrev tStructSrcapiMACDstapiMACKindintARPapiARPIPapiHeadDatauint64 : Nat := 53
abbrev tApiFrame : Nat := 54
abbrev tStructSrcapiIPDstapiIPTTLintEntropyintVNIuint32Markuint32InnerapiFrame : Nat := 55
abbrev tApiPacket : Nat := 56
abbrev tFuncLboolapiErrno : Nat := 57
abbrev tFuncLapiIPLapiIPbool : Nat := 58
abbrev tFuncLintLintbool : Nat := 59
abbrev tLint : Nat := 60
abbrev tFuncapiIPLint : Nat := 61
abbrev tStructNodesintLinksLapiLinkUpLbool : Nat := 62
abbrev tLaw14Net : Nat := 63
abbrev tLPfibFib : Nat := 64
abbrev tFunclaw14NetLPfibFib : Nat := 65
abbrev tFuncintintint : Nat := 66
abbrev tFuncintLapiLinkLboolintLint : Nat := 67
abbrev tLintintapiErrno : Nat := 68
abbrev tFunclaw14NetLPfibFibintapiPacketLintintapiErrno : Nat := 69
abbrev tFunclaw14NetintintapiPacketbool : Nat := 70
abbrev tFuncintLapiLinkLboolintintLint : Nat := 71
abbrev tFuncLapiIPapiIPbool : Nat := 72
abbrev tFunclaw14NetintapiIPbool : Nat := 73
abbrev tPfibstate : Nat := 74
abbrev tStructPfibstate : Nat := 75
abbrev tFibFib : Nat := 76
abbrev tIntapiPacketapiErrno : Nat := 77
abbrev tFuncapiPacketintapiPacketapiErrno : Nat := 78
abbrev tFuncLapiEntry : Nat := 79
abbrev tFuncPfibFib : Nat := 80
abbrev tFuncapiPacketbool : Nat := 81
abbrev tStructDstapiIPLinksLint : Nat := 82
abbrev tApiEntry : Nat := 83
abbrev tApiIPapiErrno : Nat := 84
abbrev tFuncintapiIPapiErrno : Nat := 85
abbrev tFuncLintintbool : Nat := 86
abbrev tMapintPspreadWheel : Nat := 87
abbrev tLfibentry : Nat := 88
abbrev tStructnodesintselfintlinksLapiLinkentriesLfibentrywheelsmapintPspreadWheel : Nat := 89
abbrev tFibstate : Nat := 90
abbrev tFibentry : Nat := 91
abbrev tPspreadWheel : Nat := 92
abbrev tFuncintPspreadWheel : Nat := 93
abbrev tFuncLintapiErrno : Nat := 94
abbrev tIntbool : Nat := 95
abbrev tFuncapiIPintbool : Nat := 96
abbrev tFuncLintLint : Nat := 97
abbrev tFuncintLapiLinkLboolintboolv1 : Nat := 98
abbrev tFuncLintintLint : Nat := 99
abbrev tPspfqueue : Nat := 100
abbrev tStructnodeintdistint : Nat := 101
abbrev tSpffar : Nat := 102
abbrev tLspffar : Nat := 103
abbrev tSpfqueue : Nat := 104
abbrev tFuncint : Nat := 105
abbrev tFuncheapInterfaceinterface : Nat := 106
abbrev tFuncfuncintapiLinkbool : Nat := 107
abbrev tIterSeq2intapiLink : Nat := 108
abbrev tFuncLapiLinkLbooliterSeq2intapiLink : Nat := 109
abbrev tFuncapiLinkintint : Nat := 110
abbrev tFuncheapInterfaceinterfacev1 : Nat := 111
abbrev tFuncapiErrno : Nat := 112
abbrev tLfuncapiErrno : Nat := 113
abbrev tFuncuint64intbool : Nat := 114
abbrev tFuncapiPacketuint64 : Nat := 115
abbrev tFuncPspreadWheel : Nat := 116
abbrev tFuncintLapiLinkapiErrno : Nat := 117
abbrev tFuncapiLinkintintbool : Nat := 118
abbrev tSpreadWheelbool : Nat := 119
abbrev tSpreadWheelapiErrno : Nat := 120
abbrev tFuncintspreadWheelapiErrno : Nat := 121
abbrev tPspreadstate : Nat := 122
abbrev tStructPspreadstate : Nat := 123
abbrev tSpreadWheel : Nat := 124
abbrev tStructmembersLintbucketsLint : Nat := 125
abbrev tSpreadstate : Nat := 126
abbrev tFuncintint : Nat := 127
abbrev tFuncfuncintintbool : Nat := 128
abbrev tIterSeq2intint : Nat := 129
abbrev tFuncLintiterSeq2intint : Nat := 130
abbrev tFuncLfibentryapiIPfuncfibentryapiIPintintbool : Nat := 131
abbrev tFuncfibentryapiIPint : Nat := 132
abbrev tFuncapiIPint : Nat := 133
abbrev tFuncintbool : Nat := 134
abbrev tFuncLintfuncintboolbool : Nat := 135
abbrev tUint : Nat := 136
abbrev tUintuint : Nat := 137
abbrev tFuncuintuintuintuint : Nat := 138
abbrev tInterfaceLenintLessintintboolPopinterfacePushinterfaceSwapintint : Nat := 139
abbrev tHeapInterface : Nat := 140
abbrev tFuncintintv1 : Nat := 141
abbrev tFuncheapInterfaceintintbool : Nat := 142
abbrev tFuncinterface : Nat := 143
abbrev tFuncintapiLinkbool : Nat := 144
abbrev tFuncinterfacev1 : Nat := 145
abbrev tFuncheapInterfaceint : Nat := 146
abbrev tFunciterSequint8uint64funcuint64uint8uint64uint64 : Nat := 147
abbrev tFuncfuncuint8bool : Nat := 148
abbrev tIterSequint8 : Nat := 149
abbrev tFuncapiPacketiterSequint8 : Nat := 150
abbrev tFuncuint64uint8uint64 : Nat := 151
abbrev tFuncLintintint : Nat := 152
abbrev tFuncLintfuncintintintint : Nat := 153
abbrev tFuncLint : Nat := 154
abbrev tFuncintintbool : Nat := 155
abbrev tFuncapiIPapiIPint : Nat := 156
abbrev tFuncLintfuncintboolint : Nat := 157
abbrev tUint32uint32 : Nat := 158
abbrev tFuncuint32uint32uint32uint32 : Nat := 159
abbrev tUint64uint64 : Nat := 160
abbrev tFuncuint64uint64uint64uint64 : Nat := 161
abbrev tFuncuint8bool : Nat := 162
abbrev tStructvalueuint64sizeint : Nat := 163
abbrev tLstructvalueuint64sizeint : Nat := 164
abbrev tFuncapiIPbool : Nat := 165
abbrev tFuncstring : Nat := 166
abbrev tStructinterfacePabiTypeconcretePabiTypeassertedPabiTypemissingMethodstring : Nat := 167
abbrev tRuntimeTypeAssertionError : Nat := 168
abbrev t0PruntimePanicNilError : Nat := 169
abbrev tStruct0PruntimePanicNilError : Nat := 170
abbrev tRuntimePanicNilError : Nat := 171
abbrev tAbiTFlag : Nat := 172
abbrev tAbiKind : Nat := 173
abbrev tFuncunsafePointerunsafePointerbool : Nat := 174
abbrev tPuint8 : Nat := 175
abbrev tAbiNameOff : Nat := 176
abbrev tAbiTypeOff : Nat := 177
abbrev tStructSizeuintptrPtrBytesuintptrHashuint32TFlagabiTFlagAlignuint8FieldAlignuint8KindabiKindEqualfuncunsafePointerunsafePointerboolGCDataPuint8StrabiNameOffPtrToThisabiTypeOff : Nat := 178
abbrev tAbiType : Nat := 179
abbrev tUnsafePointer : Nat := 180
noncomputable def xcfg : Cfg := mkCfgD [] [(3, [(0, [0, 1, 2, 3]), (1, [0, 1, 2, 3, 18]), (2, [8]), (3, [0, 1, 2, 3, 9, 10]), (4, [8])]), (4, [(0, []), (1, [1, 2]), (2, [1, 2, 3, 4]), (3, [1, 2, 3, 28]), (4, [0]), (5, [1, 3, 5]), (6, [1, 3, 5, 6]), (7, [1, 3, 5, 6, 8]), (8, [1, 5, 6, 9]), (9, [1, 5, 6, 9, 11]), (10, [5, 6, 9, 11, 13]), (11, [0]), (2000006, [1, 3, 5]), (2000007, [1, 3, 5, 6]), (2000009, [1, 5, 6, 9])]), (5, [(0, [1, 2, 4, 7]), (1, [1, 2, 4, 7, 9]), (2, [1, 2, 4, 7, 9, 10]), (3, [1, 2, 4, 7, 9, 10, 29]), (4, [8]), (5, [1, 2, 4, 7, 9, 10]), (6, [1, 2, 4, 7, 9, 10]), (7, [1, 2, 4, 7, 9, 10, 11]), (8, [1, 2, 4, 7, 9, 10, 11, 55]), (9, [8]), (10, [1, 2, 4, 7, 9, 10, 11, 12, 13, 14]), (11, [1, 2, 4, 7, 9, 10, 11, 12, 13, 14, 69]), (12, [8]), (13, [1, 2, 4, 7, 9, 10, 11, 12, 13, 14, 15]), (14, [1, 2, 4, 7, 9, 10, 11, 12, 13, 14, 15, 16]), (15, [1, 2, 4, 7, 9, 10, 11, 12, 13, 14, 15, 16, 88]), (16, [1, 2, 4, 7, 9, 10, 11, 12, 13, 14, 15, 16]), (17, [1, 2, 4, 7, 9, 10, 11, 12, 13, 14, 15, 16]), (18, [1, 4, 7, 9, 10, 12, 116]), (19, [8]), (20, [1, 4, 7, 9, 10, 12, 17]), (21, [1, 4, 9, 10, 12, 17]), (22, [1, 4, 9, 10, 12, 17, 18]), (23, [1, 4, 9, 10, 12, 17, 18]), (24, [9, 12, 18, 23]), (25, [8]), (1000015, [1, 2, 4, 7, 9, 10, 11, 12, 13, 14, 15, 16])]), (6, [(0, [1, 2, 3]), (1, [1, 2, 3, 7]), (2, [1, 2, 3, 7, 8]), (3, [1, 2, 3, 7, 8, 17]), (4, [6]), (5, [1, 2, 3, 7, 8]), (6, [1, 2, 3, 7, 8, 9]), (7, [1, 2, 3, 7, 8, 9, 10]), (8, [1, 2, 3, 7, 8, 9, 10, 11]), (9, [1, 2, 3, 7, 8, 9, 10, 11, 34]), (10, [1, 2, 3, 7, 8, 9, 10, 11]), (11, [1, 2, 3, 7, 8, 9, 10, 11, 54]), (12, [6]), (13, [1, 2, 3, 7, 8, 9, 10, 11, 59]), (14, [1, 2, 3, 7, 8, 9, 10, 11]), (15, [6]), (1000009, [1, 2, 3, 7, 8, 9, 10, 11])]), (7, [(0, [1]), (1, [1, 3]), (2, [1, 3, 4]), (3, [1, 3, 4, 13]), (4, [1, 3, 4]), (5, [1, 3, 4, 5]), (6, [1, 3, 4, 5, 6, 7, 8]), (7, [1, 3, 4, 68]), (8, [2]), (9, [2]), (1000003, [1, 3, 4])]), (8, [(0, []), (1, [1, 2]), (2, [1, 2, 4]), (3, [1, 2, 4, 5]), (4, [1, 2, 5, 6]), (5, [2, 5, 6, 7, 8]), (6, [5, 6, 7, 65]), (7, [0]), (8, [5, 6, 9, 10, 11]), (9, [0]), (2000001, [])]), (9, [(0, [0]), (1, [2])]), (10, [(0, [0]), (1, [2])]), (11, [(0, [0, 1]), (1, [0, 1, 10]), (2, [4]), (3, [0, 1, 5]), (4, [0, 1, 5, 14]), (5, [0, 1, 5]), (6, [0, 1, 5, 41]), (7, [4]), (8, [4]), (1000004, [0, 1, 5])]), (12, [(0, [0, 1, 2, 3]), (1, [0, 1, 2, 3, 20]), (2, [8]), (3, [0, 1, 2, 3, 9]), (4, [0, 1, 2, 3, 9, 21, 22]), (5, [0, 1, 2, 3, 9, 21, 22, 23]), (6, [0, 1, 2, 3, 9, 10, 21, 22]), (7, [0, 1, 2, 3, 9, 10, 11, 21, 22]), (8, [0, 1, 2, 3, 9, 10, 11, 21, 22, 33]), (9, [0, 1, 2, 3, 9, 11, 12, 21, 22]), (10, [0, 1, 2, 3, 9, 21, 22]), (11, [0, 1, 2, 3, 9, 21, 22]), (12, [8]), (1000005, [0, 1, 2, 3, 9, 21, 22])]), (13, [(0, [0, 1, 2, 3]), (1, [0, 1, 2, 3, 17]), (2, [8]), (3, [0, 1, 2, 3, 9]), (4, [0, 1, 2, 3, 9, 10]), (5, [0, 1, 2, 3, 9, 10, 20]), (6, [0, 1, 2, 3, 9, 10]), (7, [0, 1, 2, 3, 9, 10, 11]), (8, [0, 1, 2, 3, 9, 10, 11, 31]), (9, [0, 1, 2, 3, 9, 10]), (10, [8]), (1000005, [0, 1, 2, 3, 9, 10])]), (14, [(0, [0, 1]), (1, [0, 1, 10]), (2, [4]), (3, [0, 1, 5]), (4, [0, 1, 5, 14]), (5, [0, 1, 5]), (6, [0, 1, 5, 25]), (7, [4]), (8, [4]), (1000004, [0, 1, 5])]), (15, [(0, [0, 1]), (1, [0, 1, 10]), (2, [4]), (3, [0, 1, 5]), (4, [0, 1, 5, 14]), (5, [0, 1, 5]), (6, [0, 1, 5, 25]), (7, [4]), (8, [4]), (1000004, [0, 1, 5])]), (16, [(0, [0]), (1, [0, 4]), (2, [0, 4, 5]), (3, [0, 4, 5, 6]), (4, [0, 4, 5, 6, 14]), (5, [0, 4, 5, 6]), (6, [0, 4, 5, 6]), (7, [2, 3]), (1000004, [0, 4, 5, 6])]), (17, [(0, [0, 1, 2]), (1, [0, 1, 2, 15]), (2, [6, 7]), (3, [0, 1, 2, 22]), (4, [6, 7]), (5, [6, 7])]), (18, [(0, [0]), (1, [0, 8]), (2, [2]), (3, [0, 3]), (4, [3, 15, 16, 17]), (5, [3, 15, 16, 17, 18]), (6, [3, 5, 15, 16, 17]), (7, [3, 15, 16, 17]), (8, [3, 15, 16, 17]), (9, [2]), (1000005, [3, 15, 16, 17])]), (19, [(0, [0, 2, 4]), (1, [2, 7, 8, 9]), (2, [6])]), (20, [(0, [0]), (1, [3]), (2, [2])]), (21, [(0, [0, 1]), (1, [0, 1, 11]), (2, [4]), (3, [0, 1, 15]), (4, [4]), (5, [0, 1]), (6, [0, 55, 56, 57]), (7, [0, 55, 56, 57, 58]), (8, [0, 6, 55, 56, 57]), (9, [0, 55, 56, 57]), (10, [0, 55, 56, 57]), (11, [0, 84, 85]), (12, [0, 84, 85, 86]), (13, [0, 7, 84, 85]), (14, [0, 7, 8, 84, 85]), (15, [0, 7, 10, 84, 85]), (16, [0, 84, 85]), (17, [0, 84, 85]), (18, [4]), (1000007, [0, 55, 56, 57]), (1000012, [0, 84, 85])]), (22, [(0, [0, 1]), (1, [0, 1, 10]), (2, [4]), (3, [0, 1, 5]), (4, [0, 1, 5, 14]), (5, [0, 1, 5]), (6, [0, 1, 5, 25]), (7, [4]), (8, [4]), (1000004, [0, 1, 5])]), (23, [(0, [0, 1]), (1, [0, 1, 10]), (2, [4]), (3, [0, 1, 5]), (4, [0, 1, 5, 14]), (5, [0, 1, 5]), (6, [0, 1, 5, 25]), (7, [4]), (8, [4]), (1000004, [0, 1, 5])]), (24, [(0, [0, 1]), (1, [0, 1, 9]), (2, [4]), (3, [0, 5, 6]), (4, [0, 5, 20]), (5, [4]), (6, [4])]), (25, [(0, [1]), (1, [1, 19]), (2, [2]), (3, [1, 3]), (4, [1, 3, 4]), (5, [1, 3, 4, 23]), (6, [1, 3, 4]), (7, [1, 3, 4, 5, 6]), (8, [1, 3, 4, 5, 47]), (9, [2]), (10, [1, 3, 4]), (11, [2]), (1000005, [1, 3, 4])]), (26, [(0, [0, 1]), (1, [0, 1]), (2, [0, 1, 9]), (3, [0]), (4, [4])]), (27, [(0, [0, 1, 2, 3, 54]), (1, [0, 1, 2, 3, 21, 54]), (2, [8]), (3, [1, 2, 3, 9, 54]), (4, [1, 2, 9, 10, 54]), (5, [1, 2, 9, 10, 33, 54]), (6, [1, 2, 9, 10, 11, 54]), (7, [1, 2, 9, 10, 11, 43, 54]), (8, [1, 2, 9, 10, 11, 54]), (9, [1, 2, 9, 10, 11, 52, 54]), (10, [9, 10, 11, 13]), (11, [9, 10, 11, 13, 14]), (12, [10, 11, 13, 14, 67]), (13, []), (14, [8]), (1000005, [1, 2, 9, 10, 54])]), (28, [(0, [1, 2, 4, 7]), (1, [1, 2, 4, 7, 11]), (2, [1, 4, 7, 11, 12]), (3, [1, 4, 7, 11, 12, 13]), (4, [1, 4, 7, 11, 12, 13, 20]), (5, [1, 4, 7, 11, 12, 13]), (6, [1, 4, 7, 11, 12, 13, 14, 15, 16]), (7, [1, 4, 7, 11, 12, 13, 14, 15, 16, 34]), (8, [8, 9, 10]), (9, [1, 4, 7, 11, 12, 13, 14, 15, 62]), (10, [8, 9, 10]), (11, [1, 4, 7, 11, 12, 13, 14, 15, 17]), (12, [1, 4, 7, 11, 12, 13, 14, 15, 17, 78]), (13, [8, 9, 10]), (14, [1, 4, 7, 11, 13, 14, 15, 17, 83]), (15, [1, 4, 7, 11, 12, 13, 14, 15]), (16, [1, 4, 7, 11, 12, 13, 14, 15]), (17, [1, 4, 7, 11, 12, 13]), (18, [8, 9, 10]), (1000004, [1, 4, 7, 11, 12, 13])]), (29, [(0, [0, 1, 2, 4, 8, 32, 33]), (1, [0, 1, 2, 4, 8, 23, 32, 33]), (2, [10]), (3, [1, 2, 8, 11, 32, 33]), (4, [1, 2, 8, 11, 12, 32, 33]), (5, [8, 11, 12, 31, 32, 33]), (6, [8, 11, 12, 13, 33]), (7, [8, 11, 12, 13, 14]), (8, [8, 11, 12, 13, 14, 15]), (9, [12, 13, 59]), (10, []), (11, [10])]), (30, [(0, [0, 1]), (1, [0, 1, 5]), (2, [0, 1, 5, 9]), (3, [0, 1, 5]), (4, [0, 1, 5, 17]), (5, [4]), (6, [4]), (1000002, [0, 1, 5])]), (31, [(0, [2, 3, 5]), (1, [2, 3, 5, 16]), (2, [4, 5, 6]), (3, [2, 3, 5, 7, 8]), (4, [2, 3, 5, 7, 27, 28, 29]), (5, [2, 3, 5, 7, 27, 28, 29, 30]), (6, [2, 3, 5, 7, 10, 27, 28, 29]), (7, [2, 3, 5, 7, 11, 27, 28, 29]), (8, [2, 3, 5, 7, 11, 27, 28, 29, 36]), (9, [4, 5, 6]), (10, [2, 3, 5, 7, 27, 28, 29]), (11, [3, 5, 12, 13]), (12, [3, 5, 12, 53]), (13, [4, 5, 6]), (14, [3, 5, 12]), (15, [4, 5, 6]), (1000005, [2, 3, 5, 7, 27, 28, 29])]), (32, [(0, [0]), (1, [0, 8]), (2, [2]), (3, [0, 3]), (4, [3, 15, 16, 17]), (5, [3, 15, 16, 17, 18]), (6, [3, 5, 15, 16, 17]), (7, [3, 15, 16, 17]), (8, [3, 15, 16, 17]), (9, [2]), (1000005, [3, 15, 16, 17])]), (33, [(0, [0]), (1, [0, 10]), (2, [2]), (3, [0, 3]), (4, [0, 3]), (5, [0, 3, 23, 24, 25]), (6, [0, 3, 23, 24, 25, 26]), (7, [0, 3, 5, 23, 24, 25]), (8, [0, 3, 23, 24, 25]), (9, [0, 3, 23, 24, 25]), (10, [0, 3]), (11, [3, 45]), (12, [3, 45, 47]), (13, [3, 6, 7, 45]), (14, [3, 45]), (15, [2]), (1000006, [0, 3, 23, 24, 25]), (1000012, [3, 45])]), (34, [(0, [0]), (1, [0, 9]), (2, [2, 3]), (3, [2, 3])]), (35, [(0, [0, 1, 2, 3]), (1, [8])]), (36, [(0, [0, 1, 2, 3, 4]), (1, [0, 1, 2, 3, 4, 21]), (2, [10]), (3, [1, 2, 3, 11]), (4, [1, 2, 3, 11, 12]), (5, [1, 2, 3, 11, 12, 13]), (6, [1, 2, 3, 11, 12, 13, 35]), (7, [1, 2, 3, 11, 12, 13]), (8, [1, 2, 3, 11, 12, 13, 14, 15]), (9, [1, 2, 3, 11, 12, 13, 77]), (10, [1, 2, 3, 11, 12, 13]), (11, [10]), (1000006, [1, 2, 3, 11, 12, 13])]), (37, [(0, [0]), (1, [3]), (2, [2])]), (38, [(0, [0, 1]), (1, [0, 1, 5]), (2, [0, 1, 5, 9]), (3, [0, 1, 5]), (4, [0, 1, 5, 17]), (5, [4]), (6, [4]), (1000002, [0, 1, 5])]), (39, [(0, [0]), (1, [0, 4]), (2, [2]), (3, [2])]), (40, [(0, [0]), (1, [2])]), (41, [(0, [0, 1]), (1, [0, 1, 5, 6]), (2, [0, 1, 5, 17]), (3, [0, 1, 5]), (4, [5]), (5, [4])]), (42, [(0, [1, 2, 164, 165]), (1, [1, 2, 17, 164, 165]), (2, [4]), (3, [1, 2, 18, 19, 20, 164, 165]), (4, [1, 2, 18, 19, 20, 21, 164, 165]), (5, [1, 2, 5, 6, 18, 19, 20, 164, 165]), (6, [1, 2, 5, 6, 18, 19, 20, 25, 164, 165]), (7, [4]), (8, [1, 2, 18, 19, 20, 32, 164, 165]), (9, [4]), (10, [1, 2, 18, 19, 20, 164, 165]), (11, [1, 2, 55, 164, 165]), (12, [4]), (13, [1, 2, 164, 165]), (14, [1, 2, 70, 71, 72, 164, 165]), (15, [1, 2, 70, 71, 72, 73, 164, 165]), (16, [1, 2, 7, 8, 70, 71, 72, 164, 165]), (17, [1, 2, 7, 70, 71, 72, 80, 164, 165]), (18, [1, 2, 70, 71, 72, 164, 165]), (19, [1, 2, 70, 71, 72, 164, 165]), (20, [2, 93, 164, 165]), (21, [4]), (22, [2, 100, 101, 102, 164, 165]), (23, [2, 100, 101, 102, 103, 164, 165]), (24, [2, 9, 10, 100, 101, 102, 164, 165]), (25, [2, 9, 100, 101, 102, 108, 164, 165]), (26, [2, 100, 101, 102, 164, 165]), (27, [2, 100, 101, 102, 164, 165]), (28, [2, 145, 164, 165]), (29, [2, 11, 12, 164, 165]), (30, [2, 11, 12, 163, 164, 165]), (31, [2, 11, 12, 13, 164, 165]), (32, [2, 11, 12, 13, 14, 164, 165]), (33, [2, 12, 13, 164, 165, 168]), (34, [2, 164, 165]), (35, [4]), (1000004, [1, 2, 18, 19, 20, 164, 165]), (1000015, [1, 2, 70, 71, 72, 164, 165]), (1000023, [2, 100, 101, 102, 164, 165]), (1000028, [2, 164, 165]), (2000001, [1, 2, 164, 165])]), (43, [(0, [0, 1]), (1, [4, 5])]), (44, [(0, [0]), (1, [0, 4]), (2, [2]), (3, [2])]), (45, [(0, [1, 2, 3, 4]), (1, [1, 2, 3, 4, 9]), (2, [1, 3, 9, 30]), (3, [8]), (4, [3, 9, 31, 32, 33]), (5, [3, 9, 31, 32, 33, 34]), (6, [3, 9, 11, 31, 32, 33]), (7, [3, 9, 31, 32, 33, 65]), (8, [8]), (9, [3, 9, 31, 32, 33]), (10, [8]), (1000005, [3, 9, 31, 32, 33])]), (46, [(0, [0, 1]), (1, [0, 1, 10]), (2, [0, 1]), (3, [0, 5, 6]), (4, [0, 6, 26]), (5, [0, 6]), (6, [0, 7]), (7, [7, 8]), (8, [7, 8, 37]), (9, [7, 8]), (10, [4]), (1000008, [7, 8]), (2000003, [0, 1]), (2000006, [0, 6])]), (47, [(0, [0]), (1, [2])]), (48, [(0, [0]), (1, [0, 3]), (2, [0, 3]), (3, [0]), (4, [2])]), (49, [(0, [2, 3]), (1, [4])]), (50, [(0, [1, 2]), (1, [2, 5]), (2, [2, 5, 6]), (3, [4]), (4, [2, 12]), (5, [4]), (6, [4])]), (51, [(0, [0]), (1, [])]), (52, [(0, [0]), (1, [0, 9]), (2, [2, 3]), (3, [2, 3])]), (53, [(0, [0, 1, 2]), (1, [15]), (2, [3]), (3, [3])]), (54, [(0, [0]), (1, [4]), (2, [1]), (3, [1])]), (55, [(0, [0, 1]), (1, [4]), (2, [16]), (3, [2]), (4, [2])]), (56, [(0, [0, 1]), (1, [0, 1, 19]), (2, [4, 5]), (3, [4, 5])]), (57, [(0, [1]), (1, [2])]), (58, [(0, [0]), (1, [0, 5]), (2, [2]), (3, [2])]), (59, [(0, [0, 1]), (1, [0, 1, 7]), (2, [4]), (3, [0, 1, 14]), (4, [4]), (5, [0, 1, 5]), (6, [0, 1, 5, 21]), (7, [0, 1, 5]), (8, [0, 1, 5, 6]), (9, [0, 1, 5, 6, 57]), (10, [4]), (11, [0, 1, 5, 62]), (12, [4]), (13, [4]), (1000006, [0, 1, 5])]), (60, [(0, [0, 1, 2, 3]), (1, [0, 1, 2, 3, 19]), (2, [8]), (3, [0, 1, 2, 3, 9]), (4, [0, 1, 2, 3, 9, 10]), (5, [0, 1, 2, 3, 9, 10, 24]), (6, [0, 1, 2, 3, 9, 10]), (7, [0, 1, 2, 3, 9, 10]), (8, [1, 2, 9]), (9, [1, 2, 9, 11]), (10, [1, 2, 9, 33]), (11, [1, 2, 9, 11]), (12, [1, 2, 9, 11, 12]), (13, [1, 2, 9, 11, 12, 37]), (14, [1, 2, 9, 11, 12]), (15, [1, 2, 9, 11, 12, 13]), (16, [1, 2, 9, 11, 12, 13, 48]), (17, [1, 2, 9, 11, 12, 13, 78]), (18, [1, 2, 9, 12, 13]), (19, [1, 2, 9, 11, 12, 13]), (20, [1, 2, 9, 11, 12, 13, 120]), (21, [1, 2, 9, 12]), (22, [1, 2, 9, 11, 12]), (23, [8]), (1000005, [0, 1, 2, 3, 9, 10]), (1000010, [1, 2, 9, 11]), (1000013, [1, 2, 9, 11, 12]), (2000020, [1, 2, 9, 11, 12, 13])]), (61, [(0, [1, 2]), (1, [2, 6]), (2, [2, 6, 7]), (3, [4, 5]), (4, [2, 13]), (5, [4, 5]), (6, [4, 5])]), (62, [(0, [0]), (1, [0, 9]), (2, [2, 3]), (3, [2, 3])]), (63, [(0, [0]), (1, [0, 9]), (2, [2, 3]), (3, [2, 3])]), (64, [(0, [0]), (1, [2])]), (65, [(0, [0, 1]), (1, [4])]), (66, [(0, [1]), (1, [2])]), (67, [(0, [0, 1]), (1, [0, 1, 5]), (2, [1, 5, 11, 12, 13]), (3, [1, 5, 11, 12, 13, 14]), (4, [1, 5, 7, 11, 12, 13]), (5, [1, 5, 11, 12, 13, 19]), (6, [1, 5, 11, 12, 13]), (7, [1, 5, 11, 12, 13]), (8, [4]), (1000003, [1, 5, 11, 12, 13])]), (68, [(0, [1]), (1, [1, 3]), (2, [1, 3]), (3, [2])]), (69, [(0, [1]), (1, [2])]), (70, [(0, [0, 1, 2]), (1, [0, 1, 2, 8]), (2, [0, 1, 2, 8, 9, 10]), (3, [0, 1, 2, 8, 9, 10, 17]), (4, [0, 1, 2, 8, 9, 10, 11]), (5, [0, 1, 2, 8, 9, 10, 11, 31]), (6, [0, 1, 2, 8, 9, 10]), (7, [0, 1, 2, 8, 9, 10]), (8, [6, 7]), (1000003, [0, 1, 2, 8, 9, 10])]), (71, [(0, [1, 2]), (1, [4])]), (72, [(0, [0, 1]), (1, [3])]), (73, [(0, [0, 1]), (1, [4])]), (74, [(0, [0, 1]), (1, [3])]), (75, [(0, [0, 1]), (1, [6, 7]), (2, [4, 5]), (3, [8, 9]), (4, [4, 5])]), (76, [(0, [0, 1, 2]), (1, [0, 1, 2, 7]), (2, [0, 1, 2, 7, 8]), (3, [0, 1, 2, 7, 8, 21]), (4, [0, 1, 2, 7, 8, 9]), (5, [0, 1, 2, 7, 8, 9, 10]), (6, [0, 1, 2, 7, 9, 10, 33]), (7, [0, 1, 2, 7, 9]), (8, [0, 1, 2, 7, 9, 39]), (9, [0, 1, 2, 9]), (10, [0, 1, 2, 7]), (11, [6]), (1000002, [0, 1, 2, 7])]), (77, [(0, [0, 2, 6, 7, 8]), (1, [0, 2, 6, 7, 8, 9]), (2, [0, 2, 4, 5, 6, 7, 8]), (3, [0, 2, 6, 7, 8, 23]), (4, [0, 2, 6, 7, 8]), (1000001, [0, 2, 6, 7, 8])]), (78, [(0, [0, 1, 4]), (1, [0, 1, 4, 17]), (2, [0, 4]), (3, [0, 1]), (1000000, [0, 1])]), (79, [(0, [0, 4, 5, 9]), (1, [4, 5, 8, 9]), (2, [4, 5, 7]), (3, []), (4, [6])]), (80, [(0, [1]), (1, [2])]), (81, [(0, [0, 1]), (1, [4])]), (82, [(0, [0, 1]), (1, [0, 1, 7, 8]), (2, [0, 1, 7, 8, 9]), (3, [0, 1, 5, 7, 8]), (4, [0, 1, 5, 7, 8, 16]), (5, [4]), (6, [0, 1, 7, 8]), (7, [4]), (1000002, [0, 1, 7, 8])]), (83, [(0, [0, 1]), (1, [0, 1, 9]), (2, [0, 1]), (3, [0, 1, 5]), (4, [0, 1, 5, 6]), (5, [0, 1, 5, 6, 17]), (6, [0, 1, 5, 6]), (7, [0, 1, 5, 6, 27]), (8, [0, 1, 5, 6]), (9, [4]), (1000005, [0, 1, 5, 6])]), (84, [(0, [0, 1, 2]), (1, [5])]), (85, [(0, [0, 2, 3]), (1, [0, 2, 3, 9]), (2, [0, 2, 3]), (3, [0, 2, 3]), (1000001, [0, 2, 3])]), (86, [(0, [0, 1]), (1, [0, 1, 9]), (2, [0, 1]), (3, [0, 1, 5]), (4, [0, 1, 5, 6]), (5, [0, 1, 5, 6, 17]), (6, [0, 1, 5, 6]), (7, [0, 1, 5, 6, 27]), (8, [0, 1, 5, 6]), (9, [4]), (1000005, [0, 1, 5, 6])]), (87, [(0, [0, 1, 2]), (1, [5])]), (88, [(0, [0, 1, 3]), (1, [0, 1, 3, 8]), (2, [0, 1, 3]), (3, [0, 1, 3, 18]), (1000001, [0, 1, 3])]), (89, [(0, [0, 1]), (1, [0, 1, 5]), (2, [0, 1, 5, 6]), (3, [0, 1, 6, 11]), (4, [12]), (5, [4]), (6, [4]), (7, [0, 1, 13]), (8, [4]), (9, [0, 1, 16]), (10, [4]), (11, [19]), (12, [4]), (13, [4])]), (90, [(0, [0, 1]), (1, [0, 1, 7, 8]), (2, [0, 1, 7, 8, 9]), (3, [0, 1, 5, 7, 8]), (4, [0, 1, 5, 7, 8, 16]), (5, [4]), (6, [0, 1, 7, 8]), (7, [4]), (1000002, [0, 1, 7, 8])]), (91, [(0, [0, 1]), (1, [6]), (2, [4, 5])]), (92, [(0, [0, 1]), (1, [0, 1, 6]), (2, [0, 1, 6, 7]), (3, [0, 1, 6, 7, 8]), (4, [0, 1, 6, 7, 8, 9]), (5, [0, 1, 6, 7, 8, 9, 10]), (6, [0, 1, 6, 7, 9, 11]), (7, [0, 1, 6, 7, 9, 11, 12]), (8, [0, 1, 6, 7, 9, 12, 13]), (9, [0, 1, 7, 9, 12, 13]), (10, [0, 1, 4]), (11, [4, 5])]), (93, [(0, [0, 22, 23, 24]), (1, [0, 22, 23, 24, 25]), (2, [0, 4, 22, 23, 24]), (3, [0, 4, 5, 22, 23, 24]), (4, [0, 4, 5, 22, 23, 24, 32]), (5, [0, 4, 5, 22, 23, 24]), (6, [0, 4, 5, 22, 23, 24, 43]), (7, [0, 22, 23, 24]), (1000001, [0, 22, 23, 24]), (1000004, [0, 4, 5, 22, 23, 24])]), (94, [(0, [0]), (1, [2])]), (112, [(0, [0, 1, 2]), (1, [6])]), (113, [(0, [0]), (1, [0, 3]), (2, [0, 3, 4]), (3, [4]), (4, [2])]), (114, [(0, [])]), (115, [(0, [])])] [(4, [6, 7, 9]), (8, [1]), (27, [777777]), (42, [1, 777777]), (46, [6, 3]), (60, [20])] [(140, 100), (20, 102)]
/- 4 leafmesh/leafmeshlaw14.FibKnown -/
theorem xLaw14FibKnown (m : Mem) (n : Nat) (Q : Value → Mem → Nat → Prop) :
 Xc Try.prog xcfg 400 fLaw14FibKnown [] m n Q =
 (Wc Try.prog fLaw14square [Value.slice none 0 0] m n fun (v0 : Value) (m1 : Mem) (k2 : Nat) =>
 ∃ (p3 : Option Addr),
 ∃ (k4 : Nat),
 ∃ (k5 : Nat),
 ∃ (p6 : Option Addr),
 ∃ (k7 : Nat),
 ∃ (k8 : Nat),
 v0 = Value.tuple { toList := [Value.slice p3 k4 k5, Value.slice p6 k7 k8] } ∧
 Later
 (Wc Try.prog fFibNew [Value.int IntKind.i64 4, Value.slice p3 k4 k5, Value.int IntKind.i64 0] m1 k2 fun (v9 : Value) (m10 : Mem) (k11 : Nat) =>
 ∃ (p12 : Option Addr),
 ∃ (x13 : Int),
 v9 = Value.tuple { toList := [Value.pointer p12, Value.int IntKind.i64 x13] } ∧
 Later
 (bif x13 != 0 then Q (Value.bool false) m10 k11
 else
 bif p12.isNone then Q (Value.bool false) m10 k11
 else
 Wc Try.prog fFibFibReach [Value.pointer p12] m10 k11 fun (v14 : Value) (m15 : Mem) (k16 : Nat) =>
 ∃ (p17 : Option Addr),
 ∃ (k18 : Nat),
 ∃ (k19 : Nat),
 v14 = Value.slice p17 k18 k19 ∧
 Later
 (bif (↑k18 : Int) == 0 then
 Wc Try.prog fLaw14loop [Value.int IntKind.i64 1] m15 k16 fun (v20 : Value) (m21 : Mem) (k22 : Nat) =>
 ∃ (x23 : Int),
 v20 = Value.int IntKind.u32 x23 ∧
 Later
 (Wc Try.prog fLaw14refused [Value.pointer p12, Value.agg { toList := [Value.int IntKind.u32 0, Value.int IntKind.u32 x23, Value.int IntKind.i64 9, Value.int IntKind.i64 0, Value.int IntKind.u32 0, Value.int IntKind.u32 0, Value.int IntKind.u64 0, Value.int IntKind.u64 0, Value.int IntKind.i64 0, Value.int IntKind.i64 0, Value.int IntKind.u64 0, Value.int IntKind.u32 0, Value.int IntKind.u64 0, Value.int IntKind.u32 0, Value.int IntKind.u32 0, Value.int IntKind.u32 0, Value.int IntKind.i64 0, Value.int IntKind.i64 0, Value.int IntKind.i64 0, Value.int IntKind.i64 0, Value.int IntKind.u64 0] }, Value.int IntKind.i64 13] m21 k22 fun (v24 : Value) (m25 : Mem) (k26 : Nat) =>
 ∃ (b27 : Bool),
 v24 = Value.bool b27 ∧
 Later
 (bif b27 then
 Wc Try.prog fFibFibUpdate [Value.pointer p12, Value.slice p6 k7 k8] m25 k26 fun (v28 : Value) (m29 : Mem) (k30 : Nat) =>
 ∃ (x31 : Int),
 v28 = Value.int IntKind.i64 x31 ∧
 Later
 (bif x31 == 0 then
 Wc Try.prog fFibFibReach [Value.pointer p12] m29 k30 fun (v32 : Value) (m33 : Mem) (k34 : Nat) =>
 ∃ (p35 : Option Addr),
 ∃ (k36 : Nat),
 ∃ (k37 : Nat),
 v32 = Value.slice p35 k36 k37 ∧
 Later
 (Wc Try.prog fLaw14loop [Value.int IntKind.i64 1] m33 k34 fun (v38 : Value) (m39 : Mem) (k40 : Nat) =>
 ∃ (x41 : Int),
 v38 = Value.int IntKind.u32 x41 ∧
 Later
 (Wc Try.prog fLaw14loop [Value.int IntKind.i64 2] m39 k40 fun (v42 : Value) (m43 : Mem) (k44 : Nat) =>
 ∃ (x45 : Int),
 v42 = Value.int IntKind.u32 x45 ∧
 Later
 (Wc Try.prog fLaw14loop [Value.int IntKind.i64 3] m43 k44 fun (v46 : Value) (m47 : Mem) (k48 : Nat) =>
 ∃ (x49 : Int),
 v46 = Value.int IntKind.u32 x49 ∧
 Later
 (memLet (Tr.set m47 k48 (AObj.cells none tApiIP 1 [Value.int IntKind.u32 x41, Value.int IntKind.u32 x45, Value.int IntKind.u32 x49])) fun (m50 : Mem) =>
 Wc Try.prog fKitSameapiIP [Value.slice p35 k36 k37, Value.slice (some { block := k48, off := 0 }) 3 3] m50 (k48 + 1) fun (v51 : Value) (m52 : Mem) (k53 : Nat) =>
 ∃ (b54 : Bool),
 v51 = Value.bool b54 ∧
 Later
 (bif b54 then
 Wc Try.prog fLaw14loop [Value.int IntKind.i64 1] m52 k53 fun (v55 : Value) (m56 : Mem) (k57 : Nat) =>
 ∃ (x58 : Int),
 v55 = Value.int IntKind.u32 x58 ∧
 Later (Wc Try.prog fFibFibLookup [Value.pointer p12, Value.int IntKind.u32 x58] m56 k57 fun (v59 : Value) (m60 : Mem) (k61 : Nat) => ∃ (p62 : Option Addr), ∃ (k63 : Nat), ∃ (k64 : Nat), v59 = Value.slice p62 k63 k64 ∧ Later (memLet (Tr.set m60 k61 (AObj.cells none tInt 1 [Value.int IntKind.i64 0, Value.int IntKind.i64 1])) fun (m65 : Mem) => Wc Try.prog fKitSameint [Value.slice p62 k63 k64, Value.slice (some { block := k61, off := 0 }) 2 2] m65 (k61 + 1) fun (v66 : Value) (m67 : Mem) (k68 : Nat) => ∃ (b69 : Bool), v66 = Value.bool b69 ∧ Later (W Try.prog { fn := fLaw14FibKnown, nt := 127, slots := [(1, Value.slice p3 k4 k5), (3, Value.pointer p12), (5, Value.bool b69)], todo := pt Try.prog fLaw14FibKnown [1, 1, 1, 1, 1, 0] } m67 k68 Q)))
 else W Try.prog { fn := fLaw14FibKnown, nt := 127, slots := [(1, Value.slice p3 k4 k5), (3, Value.pointer p12), (5, Value.bool false)], todo := pt Try.prog fLaw14FibKnown [1, 1, 1, 1, 1, 0] } m52 k53 Q)))))
 else W Try.prog { fn := fLaw14FibKnown, nt := 127, slots := [(1, Value.slice p3 k4 k5), (3, Value.pointer p12), (5, Value.bool false)], todo := pt Try.prog fLaw14FibKnown [1, 1, 1, 1, 1, 0] } m29 k30 Q)
 else W Try.prog { fn := fLaw14FibKnown, nt := 127, slots := [(1, Value.slice p3 k4 k5), (3, Value.pointer p12), (5, Value.bool false)], todo := pt Try.prog fLaw14FibKnown [1, 1, 1, 1, 1, 0] } m25 k26 Q))
 else W Try.prog { fn := fLaw14FibKnown, nt := 127, slots := [(1, Value.slice p3 k4 k5), (3, Value.pointer p12), (5, Value.bool false)], todo := pt Try.prog fLaw14FibKnown [1, 1, 1, 1, 1, 0] } m15 k16 Q)))) := by kernel_rfl

theorem xLaw14FibKnownk0 (m : Mem) (n : Nat) (Q : Value → Mem → Nat → Prop) (l_a : Option Addr) (l_l : Nat) (l_c : Nat) (f : Option Addr) (one : Bool) :
 xF (ev1 Try.prog xcfg 400) { fn := fLaw14FibKnown, nt := 127, slots := [(1, Value.slice l_a l_l l_c), (3, Value.pointer f), (5, Value.bool one)], todo := pt Try.prog fLaw14FibKnown [1, 1, 1, 1, 1, 0] } m n Q =
 (Wc Try.prog fLaw14loop [Value.int IntKind.i64 0] m n fun (v0 : Value) (m1 : Mem) (k2 : Nat) =>
 ∃ (x3 : Int),
 v0 = Value.int IntKind.u32 x3 ∧
 Later
 (Wc Try.prog fLaw14refused [Value.pointer f, Value.agg { toList := [Value.int IntKind.u32 0, Value.int IntKind.u32 x3, Value.int IntKind.i64 9, Value.int IntKind.i64 0, Value.int IntKind.u32 0, Value.int IntKind.u32 0, Value.int IntKind.u64 0, Value.int IntKind.u64 0, Value.int IntKind.i64 0, Value.int IntKind.i64 0, Value.int IntKind.u64 0, Value.int IntKind.u32 0, Value.int IntKind.u64 0, Value.int IntKind.u32 0, Value.int IntKind.u32 0, Value.int IntKind.u32 0, Value.int IntKind.i64 0, Value.int IntKind.i64 0, Value.int IntKind.i64 0, Value.int IntKind.i64 0, Value.int IntKind.u64 0] }, Value.int IntKind.i64 9] m1 k2 fun (v4 : Value) (m5 : Mem) (k6 : Nat) =>
 ∃ (b7 : Bool),
 v4 = Value.bool b7 ∧
 Later
 (bif b7 then
 Wc Try.prog fLaw14loop [Value.int IntKind.i64 2] m5 k6 fun (v8 : Value) (m9 : Mem) (k10 : Nat) =>
 ∃ (x11 : Int),
 v8 = Value.int IntKind.u32 x11 ∧
 Later
 (Wc Try.prog fLaw14refused [Value.pointer f, Value.agg { toList := [Value.int IntKind.u32 0, Value.int IntKind.u32 x11, Value.int IntKind.i64 1, Value.int IntKind.i64 0, Value.int IntKind.u32 0, Value.int IntKind.u32 0, Value.int IntKind.u64 0, Value.int IntKind.u64 0, Value.int IntKind.i64 0, Value.int IntKind.i64 0, Value.int IntKind.u64 0, Value.int IntKind.u32 0, Value.int IntKind.u64 0, Value.int IntKind.u32 0, Value.int IntKind.u32 0, Value.int IntKind.u32 0, Value.int IntKind.i64 0, Value.int IntKind.i64 0, Value.int IntKind.i64 0, Value.int IntKind.i64 0, Value.int IntKind.u64 0] }, Value.int IntKind.i64 20] m9 k10 fun (v12 : Value) (m13 : Mem) (k14 : Nat) =>
 ∃ (b15 : Bool),
 v12 = Value.bool b15 ∧
 Later
 (bif b15 then
 Wc Try.prog fLaw14refused [Value.pointer f, Value.agg { toList := [Value.int IntKind.u32 0, Value.int IntKind.u32 16909060, Value.int IntKind.i64 9, Value.int IntKind.i64 0, Value.int IntKind.u32 0, Value.int IntKind.u32 0, Value.int IntKind.u64 0, Value.int IntKind.u64 0, Value.int IntKind.i64 0, Value.int IntKind.i64 0, Value.int IntKind.u64 0, Value.int IntKind.u32 0, Value.int IntKind.u64 0, Value.int IntKind.u32 0, Value.int IntKind.u32 0, Value.int IntKind.u32 0, Value.int IntKind.i64 0, Value.int IntKind.i64 0, Value.int IntKind.i64 0, Value.int IntKind.i64 0, Value.int IntKind.u64 0] }, Value.int IntKind.i64 13] m13 k14 fun (v16 : Value) (m17 : Mem) (k18 : Nat) =>
 ∃ (b19 : Bool), v16 = Value.bool b19 ∧ Later (W Try.prog { fn := fLaw14FibKnown, nt := 127, slots := [(1, Value.slice l_a l_l l_c), (3, Value.pointer f), (5, Value.bool one), (6, Value.bool b19)], todo := pt Try.prog fLaw14FibKnown [1, 1, 1, 1, 1, 1, 0] } m17 k18 Q)
 else W Try.prog { fn := fLaw14FibKnown, nt := 127, slots := [(1, Value.slice l_a l_l l_c), (3, Value.pointer f), (5, Value.bool one), (6, Value.bool false)], todo := pt Try.prog fLaw14FibKnown [1, 1, 1, 1, 1, 1, 0] } m13 k14 Q))
 else W Try.prog { fn := fLaw14FibKnown, nt := 127, slots := [(1, Value.slice l_a l_l l_c), (3, Value.pointer f), (5, Value.bool one), (6, Value.bool false)], todo := pt Try.prog fLaw14FibKnown [1, 1, 1, 1, 1, 1, 0] } m5 k6 Q))) := by kernel_rfl

theorem xLaw14FibKnownk1 (m : Mem) (n : Nat) (Q : Value → Mem → Nat → Prop) (l_a_1 : Option Addr) (l_l_1 : Nat) (l_c_1 : Nat) (f_1 : Option Addr) (one_1 : Bool) (two : Bool) :
 xF (ev1 Try.prog xcfg 400) { fn := fLaw14FibKnown, nt := 127, slots := [(1, Value.slice l_a_1 l_l_1 l_c_1), (3, Value.pointer f_1), (5, Value.bool one_1), (6, Value.bool two)], todo := pt Try.prog fLaw14FibKnown [1, 1, 1, 1, 1, 1, 0] } m n Q =
 (memLet (Tr.set m n (AObj.cells none tInt 1 [Value.int IntKind.i64 0, Value.int IntKind.i64 1])) fun (m0 : Mem) =>
 Wc Try.prog fLaw14square [Value.slice (some { block := n, off := 0 }) 2 2] m0 (n + 1) fun (v1 : Value) (m2 : Mem) (k3 : Nat) =>
 ∃ (p4 : Option Addr),
 ∃ (k5 : Nat),
 ∃ (k6 : Nat),
 ∃ (p7 : Option Addr),
 ∃ (k8 : Nat),
 ∃ (k9 : Nat),
 v1 = Value.tuple { toList := [Value.slice p4 k5 k6, Value.slice p7 k8 k9] } ∧
 Later
 (Wc Try.prog fFibFibUpdate [Value.pointer f_1, Value.slice p7 k8 k9] m2 k3 fun (v10 : Value) (m11 : Mem) (k12 : Nat) =>
 ∃ (x13 : Int),
 v10 = Value.int IntKind.i64 x13 ∧
 Later
 (bif x13 == 0 then
 Wc Try.prog fFibFibReach [Value.pointer f_1] m11 k12 fun (v14 : Value) (m15 : Mem) (k16 : Nat) =>
 ∃ (p17 : Option Addr),
 ∃ (k18 : Nat),
 ∃ (k19 : Nat),
 v14 = Value.slice p17 k18 k19 ∧
 Later
 (bif (↑k18 : Int) == 0 then
 elimA p7 (((0 : Int) ≤ 3 ∧ 3 ≤ (↑k9 : Int)) ∧ Wc Try.prog fFibFibUpdate [Value.pointer f_1, Value.slice none 3 (k9 - 0)] m15 k16 fun (v20 : Value) (m21 : Mem) (k22 : Nat) => ∃ (x23 : Int), v20 = Value.int IntKind.i64 x23 ∧ Later (W Try.prog { fn := fLaw14FibKnown, nt := 127, slots := [(1, Value.slice l_a_1 l_l_1 l_c_1), (5, Value.bool one_1), (6, Value.bool two), (9, Value.bool (x23 == 2))], todo := pt Try.prog fLaw14FibKnown [1, 1, 1, 1, 1, 1, 1, 1, 0] } m21 k22 Q)) fun (k24 k25 : Nat) (p26 : Option Nat) =>
 ((0 : Int) ≤ 3 ∧ 3 ≤ (↑k9 : Int)) ∧
 elimM p26 (Wc Try.prog fFibFibUpdate [Value.pointer f_1, Value.slice (some { block := k24, off := if k9 = 0 then k25 else k25 + 0 }) 3 (k9 - 0)] m15 k16 fun (v27 : Value) (m28 : Mem) (k29 : Nat) => ∃ (x30 : Int), v27 = Value.int IntKind.i64 x30 ∧ Later (W Try.prog { fn := fLaw14FibKnown, nt := 127, slots := [(1, Value.slice l_a_1 l_l_1 l_c_1), (5, Value.bool one_1), (6, Value.bool two), (9, Value.bool (x30 == 2))], todo := pt Try.prog fLaw14FibKnown [1, 1, 1, 1, 1, 1, 1, 1, 0] } m28 k29 Q)) fun (k31 : Nat) =>
 (0 ≤ k9 ∧ 0 < k9) ∧ Wc Try.prog fFibFibUpdate [Value.pointer f_1, Value.slice (some { block := k24, off := if k9 = 0 then k31 else k31 + 0, spot := some (k31 + 0) }) 3 (k9 - 0)] m15 k16 fun (v32 : Value) (m33 : Mem) (k34 : Nat) => ∃ (x35 : Int), v32 = Value.int IntKind.i64 x35 ∧ Later (W Try.prog { fn := fLaw14FibKnown, nt := 127, slots := [(1, Value.slice l_a_1 l_l_1 l_c_1), (5, Value.bool one_1), (6, Value.bool two), (9, Value.bool (x35 == 2))], todo := pt Try.prog fLaw14FibKnown [1, 1, 1, 1, 1, 1, 1, 1, 0] } m33 k34 Q)
 else W Try.prog { fn := fLaw14FibKnown, nt := 127, slots := [(1, Value.slice l_a_1 l_l_1 l_c_1), (5, Value.bool one_1), (6, Value.bool two), (9, Value.bool false)], todo := pt Try.prog fLaw14FibKnown [1, 1, 1, 1, 1, 1, 1, 1, 0] } m15 k16 Q)
 else W Try.prog { fn := fLaw14FibKnown, nt := 127, slots := [(1, Value.slice l_a_1 l_l_1 l_c_1), (5, Value.bool one_1), (6, Value.bool two), (9, Value.bool false)], todo := pt Try.prog fLaw14FibKnown [1, 1, 1, 1, 1, 1, 1, 1, 0] } m11 k12 Q))) := by kernel_rfl

theorem xLaw14FibKnownk2 (m : Mem) (n : Nat) (Q : Value → Mem → Nat → Prop) (l_a_2 : Option Addr) (l_l_2 : Nat) (l_c_2 : Nat) (one_2 : Bool) (two_1 : Bool) (three : Bool) :
 xF (ev1 Try.prog xcfg 400) { fn := fLaw14FibKnown, nt := 127, slots := [(1, Value.slice l_a_2 l_l_2 l_c_2), (5, Value.bool one_2), (6, Value.bool two_1), (9, Value.bool three)], todo := pt Try.prog fLaw14FibKnown [1, 1, 1, 1, 1, 1, 1, 1, 0] } m n Q =
 (memLet (Tr.set m n (AObj.cells none tApiLink 3 [Value.int IntKind.i64 0, Value.int IntKind.i64 4, Value.int IntKind.i64 1])) fun (m0 : Mem) =>
 Wc Try.prog fFibNew [Value.int IntKind.i64 4, Value.slice (some { block := n, off := 0 }) 1 1, Value.int IntKind.i64 0] m0 (n + 1) fun (v1 : Value) (m2 : Mem) (k3 : Nat) =>
 ∃ (p4 : Option Addr), ∃ (x5 : Int), v1 = Value.tuple { toList := [Value.pointer p4, Value.int IntKind.i64 x5] } ∧ Later (Wc Try.prog fFibNew [Value.int IntKind.i64 4, Value.slice l_a_2 l_l_2 l_c_2, Value.int IntKind.i64 4] m2 k3 fun (v6 : Value) (m7 : Mem) (k8 : Nat) => ∃ (p9 : Option Addr), ∃ (x10 : Int), v6 = Value.tuple { toList := [Value.pointer p9, Value.int IntKind.i64 x10] } ∧ Later (Wc Try.prog fLaw14awake [] m7 k8 fun (v11 : Value) (m12 : Mem) (k13 : Nat) => ∃ (b14 : Bool), v11 = Value.bool b14 ∧ Later (bif b14 then bif one_2 then bif two_1 then bif three then bif x5 == 3 then Q (Value.bool (x10 == 2)) m12 k13 else Q (Value.bool false) m12 k13 else Q (Value.bool false) m12 k13 else Q (Value.bool false) m12 k13 else Q (Value.bool false) m12 k13 else Q (Value.bool false) m12 k13)))) := by kernel_rfl

/- 6 leafmesh/leafmeshlaw14.FibReach -/
theorem xLaw14FibReach (m : Mem) (n : Nat) (Q : Value → Mem → Nat → Prop) (x0 : Int) (x1_a : Option Addr) (x1_l : Nat) (x1_c : Nat) (x2_a : Option Addr) (x2_l : Nat) (x2_c : Nat) (self : Int) (other : Int) :
 Xc Try.prog xcfg 400 fLaw14FibReach [Value.agg { toList := [Value.int IntKind.i64 x0, Value.slice x1_a x1_l x1_c, Value.slice x2_a x2_l x2_c] }, Value.int IntKind.i64 self, Value.int IntKind.u32 other] m n Q =
 (memLet (Tr.set m n (AObj.cells none tLaw14Net 3 [Value.int IntKind.i64 x0, Value.slice x1_a x1_l x1_c, Value.slice x2_a x2_l x2_c])) fun (m0 : Mem) =>
 Wc Try.prog fLaw14FibKnown [] m0 (n + 1) fun (v1 : Value) (m2 : Mem) (k3 : Nat) =>
 ∃ (b4 : Bool),
 v1 = Value.bool b4 ∧
 Later
 (∃ (x5 : Int),
 ∃ (p6 : Option Addr),
 ∃ (k7 : Nat),
 ∃ (k8 : Nat),
 ∃ (p9 : Option Addr),
 ∃ (k10 : Nat),
 ∃ (k11 : Nat),
 rds m2 n 0 3 = some [Value.int IntKind.i64 x5, Value.slice p6 k7 k8, Value.slice p9 k10 k11] ∧
 Wc Try.prog fLaw14tables [Value.agg { toList := [Value.int IntKind.i64 x5, Value.slice p6 k7 k8, Value.slice p9 k10 k11] }] m2 k3 fun (v12 : Value) (m13 : Mem) (k14 : Nat) =>
 ∃ (p15 : Option Addr),
 ∃ (k16 : Nat),
 ∃ (k17 : Nat),
 v12 = Value.slice p15 k16 k17 ∧
 Later
 (bif (↑k16 : Int) == 0 then Q (Value.bool b4) m13 k14
 else
 isC m13 n = true ∧
 ∃ (x18 : Int),
 rd m13 n 0 = some (Value.int IntKind.i64 x18) ∧
 Wc Try.prog fKitPick [Value.int IntKind.i64 self, Value.int IntKind.i64 x18] m13 k14 fun (v19 : Value) (m20 : Mem) (k21 : Nat) =>
 ∃ (x22 : Int),
 v19 = Value.int IntKind.i64 x22 ∧
 Later
 (isC m20 n = true ∧
 ∃ (x23 : Int),
 rd m20 n 0 = some (Value.int IntKind.i64 x23) ∧
 isC m20 n = true ∧
 ∃ (p24 : Option Addr),
 ∃ (k25 : Nat),
 ∃ (k26 : Nat),
 rd m20 n 1 = some (Value.slice p24 k25 k26) ∧ isC m20 n = true ∧ ∃ (p27 : Option Addr), ∃ (k28 : Nat), ∃ (k29 : Nat), rd m20 n 2 = some (Value.slice p27 k28 k29) ∧ Wc Try.prog fSpfDist [Value.int IntKind.i64 x23, Value.slice p24 k25 k26, Value.slice p27 k28 k29, Value.int IntKind.i64 x22] m20 k21 fun (v30 : Value) (m31 : Mem) (k32 : Nat) => ∃ (p33 : Option Addr), ∃ (k34 : Nat), ∃ (k35 : Nat), v30 = Value.slice p33 k34 k35 ∧ Later (W Try.prog { fn := fLaw14FibReach, nt := 89, slots := [(1, Value.int IntKind.i64 x22), (2, Value.int IntKind.u32 other), (3, Value.pointer (some { block := n, off := 0 })), (7, Value.bool b4), (8, Value.slice p15 k16 k17), (9, Value.slice p33 k34 k35), (10, Value.slice none 0 0), (11, Value.int IntKind.i64 0)], todo := pt Try.prog fLaw14FibReach [1, 1, 1, 1, 1, 1, 1, 0, 1, 0, 0] } m31 k32 Q))))) := by kernel_rfl

theorem xLaw14FibReachk0 (m : Mem) (n : Nat) (Q : Value → Mem → Nat → Prop) (other : Int) (self_1 : Int) (x : Nat) (ok : Bool) (all_a : Option Addr) (all_l : Nat) (all_c : Nat) (d_a : Option Addr) (d_l : Nat) (d_c : Nat) (want_a : Option Addr) (want_l : Nat) (want_c : Nat) (n' : Int) :
 xF (evX Try.prog xcfg 400) { fn := fLaw14FibReach, nt := 89, slots := [(1, Value.int IntKind.i64 self_1), (2, Value.int IntKind.u32 other), (3, Value.pointer (some { block := x, off := 0 })), (7, Value.bool ok), (8, Value.slice all_a all_l all_c), (9, Value.slice d_a d_l d_c), (10, Value.slice want_a want_l want_c), (11, Value.int IntKind.i64 n')], todo := pt Try.prog fLaw14FibReach [1, 1, 1, 1, 1, 1, 1, 0, 1, 0, 0] } m n Q =
 (bif decide (n' < (↑d_l : Int)) then
 elimA all_a False fun (k0 k1 : Nat) (p2 : Option Nat) =>
 (0 ≤ self_1 ∧ self_1 < (↑all_l : Int) ∧ liveAt m k0 = true ∧ (p2 ≠ none → 0 < all_c)) ∧
 ∃ (p3 : Option Addr),
 rd m k0 (offOf k1 p2 + self_1.toNat * 1) = some (Value.pointer p3) ∧
 ∃ (x4 : Int),
 ∃ (m5 : Mem),
 ∃ (k6 : Nat),
 (Wc Try.prog fLaw14loop [Value.int IntKind.i64 n'] m (n + 18) fun (v7 : Value) (m8 : Mem) (k9 : Nat) => v7 = Value.int IntKind.u32 x4 ∧ m8 = m5 ∧ k9 = k6) ∧
 Later
 (∃ (p10 : Option Addr),
 ∃ (k11 : Nat),
 ∃ (k12 : Nat),
 ∃ (m13 : Mem),
 ∃ (k14 : Nat),
 (Wc Try.prog fFibFibLookup [Value.pointer p3, Value.int IntKind.u32 x4] m5 k6 fun (v15 : Value) (m16 : Mem) (k17 : Nat) => v15 = Value.slice p10 k11 k12 ∧ m16 = m13 ∧ k17 = k14) ∧
 Later
 (isC m13 x = true ∧
 ∃ (x18 : Int),
 rd m13 x 0 = some (Value.int IntKind.i64 x18) ∧
 isC m13 x = true ∧
 ∃ (p19 : Option Addr),
 ∃ (k20 : Nat),
 ∃ (k21 : Nat),
 rd m13 x 1 = some (Value.slice p19 k20 k21) ∧
 isC m13 x = true ∧
 ∃ (p22 : Option Addr),
 ∃ (k23 : Nat),
 ∃ (k24 : Nat),
 rd m13 x 2 = some (Value.slice p22 k23 k24) ∧
 ∃ (p25 : Option Addr),
 ∃ (k26 : Nat),
 ∃ (k27 : Nat),
 ∃ (m28 : Mem),
 ∃ (k29 : Nat),
 (Wc Try.prog fSpfNext [Value.int IntKind.i64 x18, Value.slice p19 k20 k21, Value.slice p22 k23 k24, Value.int IntKind.i64 self_1, Value.int IntKind.i64 n'] m13 k14 fun (v30 : Value) (m31 : Mem) (k32 : Nat) => v30 = Value.slice p25 k26 k27 ∧ m31 = m28 ∧ k32 = k29) ∧
 Later
 (∃ (b33 : Bool),
 ∃ (m34 : Mem),
 ∃ (k35 : Nat),
 (Wc Try.prog fKitSameint [Value.slice p10 k11 k12, Value.slice p25 k26 k27] m28 k29 fun (v36 : Value) (m37 : Mem) (k38 : Nat) => v36 = Value.bool b33 ∧ m37 = m34 ∧ k38 = k35) ∧
 Later
 ((∃ (p39 : Option Addr), ∃ (k40 : Nat), ∃ (k41 : Nat), rd m x 2 = some (Value.slice p39 k40 k41) ∧ Value.slice p39 k40 k41 = Value.slice p22 k23 k24) ∧
 (∃ (p42 : Option Addr), ∃ (k43 : Nat), ∃ (k44 : Nat), rd m5 x 2 = some (Value.slice p42 k43 k44) ∧ Value.slice p42 k43 k44 = Value.slice p22 k23 k24) ∧
 (isC m x = true ∧ Value.pointer (some { block := x, off := 2 }) = Value.pointer (some { block := x, off := 2 })) ∧
 (isC m5 x = true ∧ Value.pointer (some { block := x, off := 2 }) = Value.pointer (some { block := x, off := 2 })) ∧
 (∃ (p45 : Option Addr), ∃ (k46 : Nat), ∃ (k47 : Nat), rd m x 1 = some (Value.slice p45 k46 k47) ∧ Value.slice p45 k46 k47 = Value.slice p19 k20 k21) ∧
 (∃ (p48 : Option Addr), ∃ (k49 : Nat), ∃ (k50 : Nat), rd m5 x 1 = some (Value.slice p48 k49 k50) ∧ Value.slice p48 k49 k50 = Value.slice p19 k20 k21) ∧
 (isC m x = true ∧ Value.pointer (some { block := x, off := 1 }) = Value.pointer (some { block := x, off := 1 })) ∧
 (isC m5 x = true ∧ Value.pointer (some { block := x, off := 1 }) = Value.pointer (some { block := x, off := 1 })) ∧
 (∃ (x51 : Int), rd m x 0 = some (Value.int IntKind.i64 x51) ∧ Value.int IntKind.i64 x51 = Value.int IntKind.i64 x18) ∧
 (∃ (x52 : Int), rd m5 x 0 = some (Value.int IntKind.i64 x52) ∧ Value.int IntKind.i64 x52 = Value.int IntKind.i64 x18) ∧
 (isC m x = true ∧ Value.pointer (some { block := x, off := 0 }) = Value.pointer (some { block := x, off := 0 })) ∧
 (isC m5 x = true ∧ Value.pointer (some { block := x, off := 0 }) = Value.pointer (some { block := x, off := 0 })) ∧
 (∃ (p53 : Option Addr), rd m5 k0 (offOf k1 p2 + self_1.toNat * 1) = some (Value.pointer p53) ∧ Value.pointer p53 = Value.pointer p3) ∧
 (elimA all_a False fun (k54 k55 : Nat) (p56 : Option Nat) => (0 ≤ self_1 ∧ self_1 < (↑all_l : Int) ∧ liveAt m5 k54 = true ∧ (p56 ≠ none → 0 < all_c)) ∧ Value.pointer (some { block := k54, off := offOf k55 p56 + self_1.toNat * 1 }) = Value.pointer (some { block := k0, off := offOf k1 p2 + self_1.toNat * 1 })) ∧
 n + 18 ≤ k6 ∧
 n + 18 ≤ k14 ∧
 n + 18 ≤ k29 ∧
 n + 18 ≤ k35 ∧
 bif !b33 then Q (Value.bool false) m34 k35
 else
 elimA d_a False fun (k57 k58 : Nat) (p59 : Option Nat) =>
 (0 ≤ n' ∧ n' < (↑d_l : Int) ∧ liveAt m34 k57 = true ∧ (p59 ≠ none → 0 < d_c)) ∧
 ∃ (x60 : Int),
 rd m34 k57 (offOf k58 p59 + n'.toNat * 1) = some (Value.int IntKind.i64 x60) ∧
 bif decide (x60 > 0) then
 Wc Try.prog fLaw14loop [Value.int IntKind.i64 n'] m34 k35 fun (v61 : Value) (m62 : Mem) (k63 : Nat) =>
 ∃ (x64 : Int),
 v61 = Value.int IntKind.u32 x64 ∧
 Later
 (memLet (Tr.set m62 k63 (AObj.cells none tApiIP 1 [Value.int IntKind.u32 x64])) fun (m65 : Mem) =>
 ∃ (p66 : Option Addr), ∃ (k67 : Nat), ∃ (k68 : Nat), ∃ (m69 : Mem), ∃ (k70 : Nat), appendA Try.prog m65 (k63 + 1) tLapiIP tLapiIP (Value.slice want_a want_l want_c) (Value.slice (some { block := k63, off := 0 }) 1 1) = Eff.val (Value.slice p66 k67 k68) m69 k70 ∧ W Try.prog { fn := fLaw14FibReach, nt := 89, slots := [(1, Value.int IntKind.i64 self_1), (2, Value.int IntKind.u32 other), (3, Value.pointer (some { block := x, off := 0 })), (7, Value.bool ok), (8, Value.slice all_a all_l all_c), (9, Value.slice d_a d_l d_c), (10, Value.slice p66 k67 k68), (11, Value.int IntKind.i64 (IntKind.i64.wrap (n' + 1)))], todo := pt Try.prog fLaw14FibReach [1, 1, 1, 1, 1, 1, 1, 0, 1, 0, 0] } m69 k70 Q)
 else W Try.prog { fn := fLaw14FibReach, nt := 89, slots := [(1, Value.int IntKind.i64 self_1), (2, Value.int IntKind.u32 other), (3, Value.pointer (some { block := x, off := 0 })), (7, Value.bool ok), (8, Value.slice all_a all_l all_c), (9, Value.slice d_a d_l d_c), (10, Value.slice want_a want_l want_c), (11, Value.int IntKind.i64 (IntKind.i64.wrap (n' + 1)))], todo := pt Try.prog fLaw14FibReach [1, 1, 1, 1, 1, 1, 1, 0, 1, 0, 0] } m34 k35 Q))))
 else
 bif ok then
 elimA all_a False fun (k71 k72 : Nat) (p73 : Option Nat) =>
 (0 ≤ self_1 ∧ self_1 < (↑all_l : Int) ∧ liveAt m k71 = true ∧ (p73 ≠ none → 0 < all_c)) ∧
 ∃ (p74 : Option Addr),
 rd m k71 (offOf k72 p73 + self_1.toNat * 1) = some (Value.pointer p74) ∧
 Wc Try.prog fFibFibReach [Value.pointer p74] m n fun (v75 : Value) (m76 : Mem) (k77 : Nat) =>
 ∃ (p78 : Option Addr),
 ∃ (k79 : Nat),
 ∃ (k80 : Nat),
 v75 = Value.slice p78 k79 k80 ∧
 Later
 (Wc Try.prog fKitSameapiIP [Value.slice p78 k79 k80, Value.slice want_a want_l want_c] m76 k77 fun (v81 : Value) (m82 : Mem) (k83 : Nat) =>
 ∃ (b84 : Bool), v81 = Value.bool b84 ∧ Later (bif b84 then elimA all_a False fun (k85 k86 : Nat) (p87 : Option Nat) => (0 ≤ self_1 ∧ self_1 < (↑all_l : Int) ∧ liveAt m82 k85 = true ∧ (p87 ≠ none → 0 < all_c)) ∧ ∃ (p88 : Option Addr), rd m82 k85 (offOf k86 p87 + self_1.toNat * 1) = some (Value.pointer p88) ∧ Wc Try.prog fFibFibLookup [Value.pointer p88, Value.int IntKind.u32 other] m82 k83 fun (v89 : Value) (m90 : Mem) (k91 : Nat) => ∃ (p92 : Option Addr), ∃ (k93 : Nat), ∃ (k94 : Nat), v89 = Value.slice p92 k93 k94 ∧ Later (Wc Try.prog fKitHasapiIP [Value.slice want_a want_l want_c, Value.int IntKind.u32 other] m90 k91 fun (v95 : Value) (m96 : Mem) (k97 : Nat) => ∃ (b98 : Bool), v95 = Value.bool b98 ∧ Later (Q (Value.bool (decide ((↑k93 : Int) > 0) == b98)) m96 k97)) else Q (Value.bool false) m82 k83))
 else Q (Value.bool false) m n) := by kernel_rfl

/- 8 leafmesh/leafmeshlaw14.awake -/
theorem xLaw14awake (m : Mem) (n : Nat) (Q : Value → Mem → Nat → Prop) :
 Xc Try.prog xcfg 400 fLaw14awake [] m n Q =
 (W Try.prog { fn := fLaw14awake, nt := 92, slots := [], todo := pt Try.prog fLaw14awake [1, 0] } m n Q) := by kernel_rfl

theorem xLaw14awakek0 (m : Mem) (n : Nat) (Q : Value → Mem → Nat → Prop) :
 xF (ev1 Try.prog xcfg 400) { fn := fLaw14awake, nt := 92, slots := [], todo := pt Try.prog fLaw14awake [1, 0] } m n Q =
 (Wc Try.prog fLaw14square [Value.slice none 0 0] m n fun (v0 : Value) (m1 : Mem) (k2 : Nat) =>
 ∃ (p3 : Option Addr),
 ∃ (k4 : Nat),
 ∃ (k5 : Nat),
 ∃ (p6 : Option Addr),
 ∃ (k7 : Nat),
 ∃ (k8 : Nat),
 v0 = Value.tuple { toList := [Value.slice p3 k4 k5, Value.slice p6 k7 k8] } ∧
 Later
 (memLet (Tr.set m1 k2 (AObj.cells none tInt 1 [Value.int IntKind.i64 0])) fun (m9 : Mem) =>
 Wc Try.prog fLaw14square [Value.slice (some { block := k2, off := 0 }) 1 1] m9 (k2 + 1) fun (v10 : Value) (m11 : Mem) (k12 : Nat) =>
 ∃ (p13 : Option Addr),
 ∃ (k14 : Nat),
 ∃ (k15 : Nat),
 ∃ (p16 : Option Addr),
 ∃ (k17 : Nat),
 ∃ (k18 : Nat),
 v10 = Value.tuple { toList := [Value.slice p13 k14 k15, Value.slice p16 k17 k18] } ∧
 Later
 (Wc Try.prog fFibOf [Value.int IntKind.i64 4, Value.slice p3 k4 k5, Value.slice p6 k7 k8, Value.int IntKind.i64 0] m11 k12 fun (v19 : Value) (m20 : Mem) (k21 : Nat) =>
 ∃ (p22 : Option Addr),
 ∃ (k23 : Nat),
 ∃ (k24 : Nat),
 v19 = Value.slice p22 k23 k24 ∧
 Later
 (Wc Try.prog fLaw14loop [Value.int IntKind.i64 1] m20 k21 fun (v25 : Value) (m26 : Mem) (k27 : Nat) =>
 ∃ (x28 : Int),
 v25 = Value.int IntKind.u32 x28 ∧
 Later
 (memLet (Tr.set m26 k27 (AObj.cells none tInt 1 [Value.int IntKind.i64 0, Value.int IntKind.i64 1])) fun (m29 : Mem) =>
 Wc Try.prog fLaw14loop [Value.int IntKind.i64 2] m29 (k27 + 1) fun (v30 : Value) (m31 : Mem) (k32 : Nat) =>
 ∃ (x33 : Int),
 v30 = Value.int IntKind.u32 x33 ∧
 Later
 (memLet (Tr.set m31 k32 (AObj.cells none tInt 1 [Value.int IntKind.i64 0])) fun (m34 : Mem) =>
 Wc Try.prog fLaw14loop [Value.int IntKind.i64 3] m34 (k32 + 1) fun (v35 : Value) (m36 : Mem) (k37 : Nat) =>
 ∃ (x38 : Int),
 v35 = Value.int IntKind.u32 x38 ∧
 Later
 (memLet (Tr.set m36 k37 (AObj.cells none tInt 1 [Value.int IntKind.i64 1])) fun (m39 : Mem) =>
 memLet (Tr.set m39 (k37 + 1) (AObj.cells none tApiEntry 2 [Value.int IntKind.u32 x28, Value.slice (some { block := k27, off := 0 }) 2 2, Value.int IntKind.u32 x33, Value.slice (some { block := k32, off := 0 }) 1 1, Value.int IntKind.u32 x38, Value.slice (some { block := k37, off := 0 }) 1 1])) fun (m40 : Mem) =>
 Wc Try.prog fLaw14entries [Value.slice p22 k23 k24, Value.slice (some { block := k37 + 1, off := 0 }) 3 3] m40 (k37 + 1 + 1) fun (v41 : Value) (m42 : Mem) (k43 : Nat) =>
 ∃ (b44 : Bool),
 v41 = Value.bool b44 ∧
 Later
 (Wc Try.prog fFibOf [Value.int IntKind.i64 4, Value.slice p3 k4 k5, Value.slice p16 k17 k18, Value.int IntKind.i64 0] m42 k43 fun (v45 : Value) (m46 : Mem) (k47 : Nat) =>
 ∃ (p48 : Option Addr),
 ∃ (k49 : Nat),
 ∃ (k50 : Nat),
 v45 = Value.slice p48 k49 k50 ∧
 Later
 (Wc Try.prog fLaw14loop [Value.int IntKind.i64 1] m46 k47 fun (v51 : Value) (m52 : Mem) (k53 : Nat) =>
 ∃ (x54 : Int),
 v51 = Value.int IntKind.u32 x54 ∧
 Later
 (memLet (Tr.set m52 k53 (AObj.cells none tInt 1 [Value.int IntKind.i64 1])) fun (m55 : Mem) =>
 Wc Try.prog fLaw14loop [Value.int IntKind.i64 2] m55 (k53 + 1) fun (v56 : Value) (m57 : Mem) (k58 : Nat) =>
 ∃ (x59 : Int),
 v56 = Value.int IntKind.u32 x59 ∧
 Later
 (memLet (Tr.set m57 k58 (AObj.cells none tInt 1 [Value.int IntKind.i64 1])) fun (m60 : Mem) =>
 Wc Try.prog fLaw14loop [Value.int IntKind.i64 3] m60 (k58 + 1) fun (v61 : Value) (m62 : Mem) (k63 : Nat) =>
 ∃ (x64 : Int),
 v61 = Value.int IntKind.u32 x64 ∧
 Later
 (memLet (Tr.set m62 k63 (AObj.cells none tInt 1 [Value.int IntKind.i64 1])) fun (m65 : Mem) =>
 memLet (Tr.set m65 (k63 + 1) (AObj.cells none tApiEntry 2 [Value.int IntKind.u32 x54, Value.slice (some { block := k53, off := 0 }) 1 1, Value.int IntKind.u32 x59, Value.slice (some { block := k58, off := 0 }) 1 1, Value.int IntKind.u32 x64, Value.slice (some { block := k63, off := 0 }) 1 1])) fun (m66 : Mem) =>
 Wc Try.prog fLaw14entries [Value.slice p48 k49 k50, Value.slice (some { block := k63 + 1, off := 0 }) 3 3] m66 (k63 + 1 + 1) fun (v67 : Value) (m68 : Mem) (k69 : Nat) =>
 ∃ (b70 : Bool),
 v67 = Value.bool b70 ∧
 Later
 (Wc Try.prog fFibNew [Value.int IntKind.i64 4, Value.slice p3 k4 k5, Value.int IntKind.i64 0] m68 k69 fun (v71 : Value) (m72 : Mem) (k73 : Nat) =>
 ∃ (p74 : Option Addr),
 ∃ (x75 : Int),
 v71 = Value.tuple { toList := [Value.pointer p74, Value.int IntKind.i64 x75] } ∧
 Later
 (bif x75 != 0 then Q (Value.bool false) m72 k73
 else
 bif p74.isNone then Q (Value.bool false) m72 k73
 else
 Wc Try.prog fFibFibUpdate [Value.pointer p74, Value.slice p6 k7 k8] m72 k73 fun (v76 : Value) (m77 : Mem) (k78 : Nat) =>
 ∃ (x79 : Int),
 v76 = Value.int IntKind.i64 x79 ∧
 Later
 (bif x79 != 0 then Q (Value.bool false) m77 k78
 else
 Wc Try.prog fLaw14loop [Value.int IntKind.i64 2] m77 k78 fun (v80 : Value) (m81 : Mem) (k82 : Nat) =>
 ∃ (x83 : Int),
 v80 = Value.int IntKind.u32 x83 ∧
 Later
 (Wc Try.prog fFibFibForward [Value.pointer p74, Value.agg { toList := [Value.int IntKind.u32 0, Value.int IntKind.u32 x83, Value.int IntKind.i64 9, Value.int IntKind.i64 0, Value.int IntKind.u32 0, Value.int IntKind.u32 0, Value.int IntKind.u64 0, Value.int IntKind.u64 0, Value.int IntKind.i64 0, Value.int IntKind.i64 0, Value.int IntKind.u64 0, Value.int IntKind.u32 0, Value.int IntKind.u64 0, Value.int IntKind.u32 0, Value.int IntKind.u32 0, Value.int IntKind.u32 0, Value.int IntKind.i64 0, Value.int IntKind.i64 0, Value.int IntKind.i64 0, Value.int IntKind.i64 0, Value.int IntKind.u64 0] }] m81 k82 fun (v84 : Value) (m85 : Mem) (k86 : Nat) =>
 ∃ (x87 : Int),
 ∃ (x88 : Int),
 ∃ (x89 : Int),
 ∃ (x90 : Int),
 ∃ (x91 : Int),
 ∃ (x92 : Int),
 ∃ (x93 : Int),
 ∃ (x94 : Int),
 ∃ (x95 : Int),
 ∃ (x96 : Int),
 ∃ (x97 : Int),
 ∃ (x98 : Int),
 ∃ (x99 : Int),
 ∃ (x100 : Int),
 ∃ (x101 : Int),
 ∃ (x102 : Int),
 ∃ (x103 : Int),
 ∃ (x104 : Int),
 ∃ (x105 : Int),
 ∃ (x106 : Int),
 ∃ (x107 : Int),
 ∃ (x108 : Int),
 ∃ (x109 : Int),
 v84 =
 Value.tuple
 { toList :=
 [Value.int IntKind.i64 x87, Value.agg { toList := [Value.int IntKind.u32 x88, Value.int IntKind.u32 x89, Value.int IntKind.i64 x90, Value.int IntKind.i64 x91, Value.int IntKind.u32 x92, Value.int IntKind.u32 x93, Value.int IntKind.u64 x94, Value.int IntKind.u64 x95, Value.int IntKind.i64 x96, Value.int IntKind.i64 x97, Value.int IntKind.u64 x98, Value.int IntKind.u32 x99, Value.int IntKind.u64 x100, Value.int IntKind.u32 x101, Value.int IntKind.u32 x102, Value.int IntKind.u32 x103, Value.int IntKind.i64 x104, Value.int IntKind.i64 x105, Value.int IntKind.i64 x106, Value.int IntKind.i64 x107, Value.int IntKind.u64 x108] }, Value.int IntKind.i64 x109] } ∧
 Later
 (memLet (Tr.set m85 k86 (AObj.cells none tApiPacket 21 [Value.int IntKind.u32 0, Value.int IntKind.u32 0, Value.int IntKind.i64 0, Value.int IntKind.i64 0, Value.int IntKind.u32 0, Value.int IntKind.u32 0, Value.int IntKind.u64 0, Value.int IntKind.u64 0, Value.int IntKind.i64 0, Value.int IntKind.i64 0, Value.int IntKind.u64 0, Value.int IntKind.u32 0, Value.int IntKind.u64 0, Value.int IntKind.u32 0, Value.int IntKind.u32 0, Value.int IntKind.u32 0, Value.int IntKind.i64 0, Value.int IntKind.i64 0, Value.int IntKind.i64 0, Value.int IntKind.i64 0, Value.int IntKind.u64 0])) fun (m110 : Mem) =>
 ∃ (m111 : Mem),
 storeCs m110 k86 0 [Value.int IntKind.u32 x88, Value.int IntKind.u32 x89, Value.int IntKind.i64 x90, Value.int IntKind.i64 x91, Value.int IntKind.u32 x92, Value.int IntKind.u32 x93, Value.int IntKind.u64 x94, Value.int IntKind.u64 x95, Value.int IntKind.i64 x96, Value.int IntKind.i64 x97, Value.int IntKind.u64 x98, Value.int IntKind.u32 x99, Value.int IntKind.u64 x100, Value.int IntKind.u32 x101, Value.int IntKind.u32 x102, Value.int IntKind.u32 x103, Value.int IntKind.i64 x104, Value.int IntKind.i64 x105, Value.int IntKind.i64 x106, Value.int IntKind.i64 x107, Value.int IntKind.u64 x108] = some m111 ∧
 bif b44 then
 bif b70 then
 bif x87 == 0 then
 ∃ (x112 : Int),
 ∃ (x113 : Int),
 ∃ (x114 : Int),
 ∃ (x115 : Int),
 ∃ (x116 : Int),
 ∃ (x117 : Int),
 ∃ (x118 : Int),
 ∃ (x119 : Int),
 ∃ (x120 : Int),
 ∃ (x121 : Int),
 ∃ (x122 : Int),
 ∃ (x123 : Int),
 ∃ (x124 : Int),
 ∃ (x125 : Int),
 ∃ (x126 : Int),
 ∃ (x127 : Int),
 ∃ (x128 : Int),
 ∃ (x129 : Int),
 ∃ (x130 : Int),
 ∃ (x131 : Int),
 ∃ (x132 : Int),
 rds m111 k86 0 21 = some [Value.int IntKind.u32 x112, Value.int IntKind.u32 x113, Value.int IntKind.i64 x114, Value.int IntKind.i64 x115, Value.int IntKind.u32 x116, Value.int IntKind.u32 x117, Value.int IntKind.u64 x118, Value.int IntKind.u64 x119, Value.int IntKind.i64 x120, Value.int IntKind.i64 x121, Value.int IntKind.u64 x122, Value.int IntKind.u32 x123, Value.int IntKind.u64 x124, Value.int IntKind.u32 x125, Value.int IntKind.u32 x126, Value.int IntKind.u32 x127, Value.int IntKind.i64 x128, Value.int IntKind.i64 x129, Value.int IntKind.i64 x130, Value.int IntKind.i64 x131, Value.int IntKind.u64 x132] ∧
 ∃ (x133 : Int),
 ∃ (m134 : Mem),
 ∃ (k135 : Nat),
 (Wc Try.prog fLaw14loop [Value.int IntKind.i64 2] m111 (k86 + 1 + 19) fun (v136 : Value) (m137 : Mem) (k138 : Nat) => v136 = Value.int IntKind.u32 x133 ∧ m137 = m134 ∧ k138 = k135) ∧
 Later
 (bif x112 == 0 && (x113 == x133 && (x114 == 8 && (x115 == 0 && (x116 == 0 && (x117 == 0 && (x118 == 0 && (x119 == 0 && (x120 == 0 && (x121 == 0 && (x122 == 0 && (x123 == 0 && (x124 == 0 && (x125 == 0 && true)))) && (x126 == 0 && (x127 == 0 && (x128 == 0 && (x129 == 0 && (x130 == 0 && (x131 == 0 && true))))) && (x132 == 0 && true))))) && true)))))) then
 (∃ (x139 : Int),
 ∃ (x140 : Int),
 ∃ (x141 : Int),
 ∃ (x142 : Int),
 ∃ (x143 : Int),
 ∃ (x144 : Int),
 ∃ (x145 : Int),
 ∃ (x146 : Int),
 ∃ (x147 : Int),
 ∃ (x148 : Int),
 ∃ (x149 : Int),
 ∃ (x150 : Int),
 ∃ (x151 : Int),
 ∃ (x152 : Int),
 ∃ (x153 : Int),
 ∃ (x154 : Int),
 ∃ (x155 : Int),
 ∃ (x156 : Int),
 ∃ (x157 : Int),
 ∃ (x158 : Int),
 ∃ (x159 : Int),
 rds m134 k86 0 21 =
 some
 [Value.int IntKind.u32 x139, Value.int IntKind.u32 x140, Value.int IntKind.i64 x141, Value.int IntKind.i64 x142, Value.int IntKind.u32 x143, Value.int IntKind.u32 x144, Value.int IntKind.u64 x145, Value.int IntKind.u64 x146, Value.int IntKind.i64 x147, Value.int IntKind.i64 x148, Value.int IntKind.u64 x149, Value.int IntKind.u32 x150, Value.int IntKind.u64 x151, Value.int IntKind.u32 x152, Value.int IntKind.u32 x153, Value.int IntKind.u32 x154, Value.int IntKind.i64 x155, Value.int IntKind.i64 x156, Value.int IntKind.i64 x157,
 Value.int IntKind.i64 x158, Value.int IntKind.u64 x159] ∧
 Value.agg
 { toList :=
 [Value.int IntKind.u32 x139, Value.int IntKind.u32 x140, Value.int IntKind.i64 x141, Value.int IntKind.i64 x142, Value.int IntKind.u32 x143, Value.int IntKind.u32 x144, Value.int IntKind.u64 x145, Value.int IntKind.u64 x146, Value.int IntKind.i64 x147, Value.int IntKind.i64 x148, Value.int IntKind.u64 x149, Value.int IntKind.u32 x150, Value.int IntKind.u64 x151, Value.int IntKind.u32 x152, Value.int IntKind.u32 x153, Value.int IntKind.u32 x154, Value.int IntKind.i64 x155, Value.int IntKind.i64 x156, Value.int IntKind.i64 x157,
 Value.int IntKind.i64 x158, Value.int IntKind.u64 x159] } =
 Value.agg
 { toList :=
 [Value.int IntKind.u32 x112, Value.int IntKind.u32 x113, Value.int IntKind.i64 x114, Value.int IntKind.i64 x115, Value.int IntKind.u32 x116, Value.int IntKind.u32 x117, Value.int IntKind.u64 x118, Value.int IntKind.u64 x119, Value.int IntKind.i64 x120, Value.int IntKind.i64 x121, Value.int IntKind.u64 x122, Value.int IntKind.u32 x123, Value.int IntKind.u64 x124, Value.int IntKind.u32 x125, Value.int IntKind.u32 x126, Value.int IntKind.u32 x127, Value.int IntKind.i64 x128, Value.int IntKind.i64 x129, Value.int IntKind.i64 x130,
 Value.int IntKind.i64 x131, Value.int IntKind.u64 x132] }) ∧
 k86 + 1 + 19 ≤ k135 ∧ Q (Value.bool (x109 == 0)) m134 k135
 else
 (∃ (x160 : Int),
 ∃ (x161 : Int),
 ∃ (x162 : Int),
 ∃ (x163 : Int),
 ∃ (x164 : Int),
 ∃ (x165 : Int),
 ∃ (x166 : Int),
 ∃ (x167 : Int),
 ∃ (x168 : Int),
 ∃ (x169 : Int),
 ∃ (x170 : Int),
 ∃ (x171 : Int),
 ∃ (x172 : Int),
 ∃ (x173 : Int),
 ∃ (x174 : Int),
 ∃ (x175 : Int),
 ∃ (x176 : Int),
 ∃ (x177 : Int),
 ∃ (x178 : Int),
 ∃ (x179 : Int),
 ∃ (x180 : Int),
 rds m134 k86 0 21 =
 some
 [Value.int IntKind.u32 x160, Value.int IntKind.u32 x161, Value.int IntKind.i64 x162, Value.int IntKind.i64 x163, Value.int IntKind.u32 x164, Value.int IntKind.u32 x165, Value.int IntKind.u64 x166, Value.int IntKind.u64 x167, Value.int IntKind.i64 x168, Value.int IntKind.i64 x169, Value.int IntKind.u64 x170, Value.int IntKind.u32 x171, Value.int IntKind.u64 x172, Value.int IntKind.u32 x173, Value.int IntKind.u32 x174, Value.int IntKind.u32 x175, Value.int IntKind.i64 x176, Value.int IntKind.i64 x177, Value.int IntKind.i64 x178,
 Value.int IntKind.i64 x179, Value.int IntKind.u64 x180] ∧
 Value.agg
 { toList :=
 [Value.int IntKind.u32 x160, Value.int IntKind.u32 x161, Value.int IntKind.i64 x162, Value.int IntKind.i64 x163, Value.int IntKind.u32 x164, Value.int IntKind.u32 x165, Value.int IntKind.u64 x166, Value.int IntKind.u64 x167, Value.int IntKind.i64 x168, Value.int IntKind.i64 x169, Value.int IntKind.u64 x170, Value.int IntKind.u32 x171, Value.int IntKind.u64 x172, Value.int IntKind.u32 x173, Value.int IntKind.u32 x174, Value.int IntKind.u32 x175, Value.int IntKind.i64 x176, Value.int IntKind.i64 x177, Value.int IntKind.i64 x178,
 Value.int IntKind.i64 x179, Value.int IntKind.u64 x180] } =
 Value.agg
 { toList :=
 [Value.int IntKind.u32 x112, Value.int IntKind.u32 x113, Value.int IntKind.i64 x114, Value.int IntKind.i64 x115, Value.int IntKind.u32 x116, Value.int IntKind.u32 x117, Value.int IntKind.u64 x118, Value.int IntKind.u64 x119, Value.int IntKind.i64 x120, Value.int IntKind.i64 x121, Value.int IntKind.u64 x122, Value.int IntKind.u32 x123, Value.int IntKind.u64 x124, Value.int IntKind.u32 x125, Value.int IntKind.u32 x126, Value.int IntKind.u32 x127, Value.int IntKind.i64 x128, Value.int IntKind.i64 x129, Value.int IntKind.i64 x130,
 Value.int IntKind.i64 x131, Value.int IntKind.u64 x132] }) ∧
 k86 + 1 + 19 ≤ k135 ∧ Q (Value.bool false) m134 k135)
 else Q (Value.bool false) m111 (k86 + 1 + 19)
 else Q (Value.bool false) m111 (k86 + 1 + 19)
 else Q (Value.bool false) m111 (k86 + 1 + 19)))))))))))))))))) := by kernel_rfl

/- 11 leafmesh/leafmeshlaw14.entries -/
theorem xLaw14entries (m : Mem) (n : Nat) (Q : Value → Mem → Nat → Prop) (a_a : Option Addr) (a_l : Nat) (a_c : Nat) (b_a : Option Addr) (b_l : Nat) (b_c : Nat) :
 Xc Try.prog xcfg 400 fLaw14entries [Value.slice a_a a_l a_c, Value.slice b_a b_l b_c] m n Q =
 (bif (↑a_l : Int) != (↑b_l : Int) then Q (Value.bool false) m n else W Try.prog { fn := fLaw14entries, nt := 42, slots := [(0, Value.slice a_a a_l a_c), (1, Value.slice b_a b_l b_c), (5, Value.int IntKind.i64 0)], todo := pt Try.prog fLaw14entries [1, 1, 0, 1, 0, 0] } m n Q) := by kernel_rfl

theorem xLaw14entriesk0 (m : Mem) (n : Nat) (Q : Value → Mem → Nat → Prop) (a_a : Option Addr) (a_l : Nat) (a_c : Nat) (b_a : Option Addr) (b_l : Nat) (b_c : Nat) (i : Int) :
 xF (evX Try.prog xcfg 400) { fn := fLaw14entries, nt := 42, slots := [(0, Value.slice a_a a_l a_c), (1, Value.slice b_a b_l b_c), (5, Value.int IntKind.i64 i)], todo := pt Try.prog fLaw14entries [1, 1, 0, 1, 0, 0] } m n Q =
 (bif decide (i < (↑a_l : Int)) then
 elimA a_a False fun (k0 k1 : Nat) (p2 : Option Nat) =>
 (0 ≤ i ∧ i < (↑a_l : Int) ∧ liveAt m k0 = true ∧ (p2 ≠ none → 0 < a_c)) ∧
 isC m k0 = true ∧
 ∃ (x3 : Int),
 rd m k0 (offOf k1 p2 + i.toNat * 2 + 0) = some (Value.int IntKind.u32 x3) ∧
 elimA b_a False fun (k4 k5 : Nat) (p6 : Option Nat) =>
 (0 ≤ i ∧ i < (↑b_l : Int) ∧ liveAt m k4 = true ∧ (p6 ≠ none → 0 < b_c)) ∧
 isC m k4 = true ∧
 ∃ (x7 : Int),
 rd m k4 (offOf k5 p6 + i.toNat * 2 + 0) = some (Value.int IntKind.u32 x7) ∧
 bif x3 != x7 then Q (Value.bool false) m (n + 25)
 else
 elimA a_a False fun (k8 k9 : Nat) (p10 : Option Nat) =>
 (0 ≤ i ∧ i < (↑a_l : Int) ∧ liveAt m k8 = true ∧ (p10 ≠ none → 0 < a_c)) ∧
 isC m k8 = true ∧
 ∃ (p11 : Option Addr),
 ∃ (k12 : Nat),
 ∃ (k13 : Nat),
 rd m k8 (offOf k9 p10 + i.toNat * 2 + 1) = some (Value.slice p11 k12 k13) ∧
 elimA b_a False fun (k14 k15 : Nat) (p16 : Option Nat) => (0 ≤ i ∧ i < (↑b_l : Int) ∧ liveAt m k14 = true ∧ (p16 ≠ none → 0 < b_c)) ∧ isC m k14 = true ∧ ∃ (p17 : Option Addr), ∃ (k18 : Nat), ∃ (k19 : Nat), rd m k14 (offOf k15 p16 + i.toNat * 2 + 1) = some (Value.slice p17 k18 k19) ∧ ∃ (b20 : Bool), ∃ (m21 : Mem), ∃ (k22 : Nat), (Wc Try.prog fKitSameint [Value.slice p11 k12 k13, Value.slice p17 k18 k19] m (n + 25) fun (v23 : Value) (m24 : Mem) (k25 : Nat) => v23 = Value.bool b20 ∧ m24 = m21 ∧ k25 = k22) ∧ Later (n + 25 ≤ k22 ∧ bif !b20 then Q (Value.bool false) m21 k22 else W Try.prog { fn := fLaw14entries, nt := 42, slots := [(0, Value.slice a_a a_l a_c), (1, Value.slice b_a b_l b_c), (5, Value.int IntKind.i64 (IntKind.i64.wrap (i + 1)))], todo := pt Try.prog fLaw14entries [1, 1, 0, 1, 0, 0] } m21 k22 Q)
 else Q (Value.bool true) m n) := by kernel_rfl

/- 12 leafmesh/fib.Of -/
theorem xFibOf (m : Mem) (n : Nat) (Q : Value → Mem → Nat → Prop) (nodes : Int) (links_a : Option Addr) (links_l : Nat) (links_c : Nat) (up_a : Option Addr) (up_l : Nat) (up_c : Nat) (self : Int) :
 Xc Try.prog xcfg 400 fFibOf [Value.int IntKind.i64 nodes, Value.slice links_a links_l links_c, Value.slice up_a up_l up_c, Value.int IntKind.i64 self] m n Q =
 (Wc Try.prog fSpfDist [Value.int IntKind.i64 nodes, Value.slice links_a links_l links_c, Value.slice up_a up_l up_c, Value.int IntKind.i64 self] m n fun (v0 : Value) (m1 : Mem) (k2 : Nat) => ∃ (p3 : Option Addr), ∃ (k4 : Nat), ∃ (k5 : Nat), v0 = Value.slice p3 k4 k5 ∧ Later (bif (↑k4 : Int) == 0 then Q (Value.slice none 0 0) m1 k2 else W Try.prog { fn := fFibOf, nt := 47, slots := [(0, Value.int IntKind.i64 nodes), (1, Value.slice links_a links_l links_c), (2, Value.slice up_a up_l up_c), (3, Value.int IntKind.i64 self), (9, Value.slice none 0 0), (21, Value.int IntKind.i64 nodes), (22, Value.int IntKind.i64 0)], todo := pt Try.prog fFibOf [1, 1, 1, 0, 1, 0, 0] } m1 k2 Q)) := by kernel_rfl

theorem xFibOfk0 (m : Mem) (n : Nat) (Q : Value → Mem → Nat → Prop) (nodes : Int) (links_a : Option Addr) (links_l : Nat) (links_c : Nat) (up_a : Option Addr) (up_l : Nat) (up_c : Nat) (self : Int) (out'_a : Option Addr) (out'_l : Nat) (out'_c : Nat) (t22 : Int) :
 xF (evX Try.prog xcfg 400) { fn := fFibOf, nt := 47, slots := [(0, Value.int IntKind.i64 nodes), (1, Value.slice links_a links_l links_c), (2, Value.slice up_a up_l up_c), (3, Value.int IntKind.i64 self), (9, Value.slice out'_a out'_l out'_c), (21, Value.int IntKind.i64 nodes), (22, Value.int IntKind.i64 t22)], todo := pt Try.prog fFibOf [1, 1, 1, 0, 1, 0, 0] } m n Q =
 (bif decide (t22 < nodes) then
 Wc Try.prog fSpfNext [Value.int IntKind.i64 nodes, Value.slice links_a links_l links_c, Value.slice up_a up_l up_c, Value.int IntKind.i64 self, Value.int IntKind.i64 t22] m n fun (v0 : Value) (m1 : Mem) (k2 : Nat) =>
 ∃ (p3 : Option Addr),
 ∃ (k4 : Nat),
 ∃ (k5 : Nat),
 v0 = Value.slice p3 k4 k5 ∧
 Later
 (bif decide ((↑k4 : Int) > 0) then
 Wc Try.prog fAddrLoopback [Value.int IntKind.i64 t22] m1 k2 fun (v6 : Value) (m7 : Mem) (k8 : Nat) =>
 ∃ (x9 : Int),
 ∃ (x10 : Int), v6 = Value.tuple { toList := [Value.int IntKind.u32 x9, Value.int IntKind.i64 x10] } ∧ Later (memLet (Tr.set m7 k8 (AObj.cells none tApiEntry 2 [Value.int IntKind.u32 x9, Value.slice p3 k4 k5])) fun (m11 : Mem) => ∃ (p12 : Option Addr), ∃ (k13 : Nat), ∃ (k14 : Nat), ∃ (m15 : Mem), ∃ (k16 : Nat), appendA Try.prog m11 (k8 + 1) tLapiEntry tLapiEntry (Value.slice out'_a out'_l out'_c) (Value.slice (some { block := k8, off := 0 }) 1 1) = Eff.val (Value.slice p12 k13 k14) m15 k16 ∧ W Try.prog { fn := fFibOf, nt := 47, slots := [(0, Value.int IntKind.i64 nodes), (1, Value.slice links_a links_l links_c), (2, Value.slice up_a up_l up_c), (3, Value.int IntKind.i64 self), (9, Value.slice p12 k13 k14), (21, Value.int IntKind.i64 nodes), (22, Value.int IntKind.i64 (IntKind.i64.wrap (t22 + 1)))], todo := pt Try.prog fFibOf [1, 1, 1, 0, 1, 0, 0] } m15 k16 Q)
 else W Try.prog { fn := fFibOf, nt := 47, slots := [(0, Value.int IntKind.i64 nodes), (1, Value.slice links_a links_l links_c), (2, Value.slice up_a up_l up_c), (3, Value.int IntKind.i64 self), (9, Value.slice out'_a out'_l out'_c), (21, Value.int IntKind.i64 nodes), (22, Value.int IntKind.i64 (IntKind.i64.wrap (t22 + 1)))], todo := pt Try.prog fFibOf [1, 1, 1, 0, 1, 0, 0] } m1 k2 Q)
 else Q (Value.slice out'_a out'_l out'_c) m n) := by kernel_rfl

/- 16 leafmesh/leafmeshlaw14.square -/
theorem xLaw14square (m : Mem) (n : Nat) (Q : Value → Mem → Nat → Prop) (down_a : Option Addr) (down_l : Nat) (down_c : Nat) :
 Xc Try.prog xcfg 400 fLaw14square [Value.slice down_a down_l down_c] m n Q =
 (memLet (Tr.set m n (AObj.cells none tApiLink 3 [Value.int IntKind.i64 0, Value.int IntKind.i64 2, Value.int IntKind.i64 1, Value.int IntKind.i64 0, Value.int IntKind.i64 3, Value.int IntKind.i64 1, Value.int IntKind.i64 1, Value.int IntKind.i64 2, Value.int IntKind.i64 1, Value.int IntKind.i64 1, Value.int IntKind.i64 3, Value.int IntKind.i64 1])) fun (m0 : Mem) => ((0 : Int) ≤ 4 ∧ (4 : Int) ≤ 4 ∧ (8 : Int) ≤ 281474976710656) ∧ memLet (Tr.set m0 (n + 1) (AObj.cells none tBool 1 [Value.bool false, Value.bool false, Value.bool false, Value.bool false])) fun (m1 : Mem) => W Try.prog { fn := fLaw14square, nt := 26, slots := [(0, Value.slice down_a down_l down_c), (4, Value.slice (some { block := n, off := 0 }) 4 4), (5, Value.slice (some { block := n + 1, off := 0 }) 4 4), (6, Value.int IntKind.i64 0)], todo := pt Try.prog fLaw14square [1, 1, 1, 0, 1, 0, 0] } m1 (n + 1 + 1) Q) := by kernel_rfl

theorem xLaw14squarek0 (m : Mem) (n : Nat) (Q : Value → Mem → Nat → Prop) (down_a : Option Addr) (down_l : Nat) (down_c : Nat) (l_a : Option Addr) (l_l : Nat) (l_c : Nat) (up_a : Option Addr) (up_l : Nat) (up_c : Nat) (i : Int) :
 xF (evX Try.prog xcfg 400) { fn := fLaw14square, nt := 26, slots := [(0, Value.slice down_a down_l down_c), (4, Value.slice l_a l_l l_c), (5, Value.slice up_a up_l up_c), (6, Value.int IntKind.i64 i)], todo := pt Try.prog fLaw14square [1, 1, 1, 0, 1, 0, 0] } m n Q =
 (bif decide (i < 4) then Wc Try.prog fKitHasint [Value.slice down_a down_l down_c, Value.int IntKind.i64 i] m n fun (v0 : Value) (m1 : Mem) (k2 : Nat) => ∃ (b3 : Bool), v0 = Value.bool b3 ∧ Later (elimA up_a False fun (k4 k5 : Nat) (p6 : Option Nat) => (0 ≤ i ∧ i < (↑up_l : Int) ∧ liveAt m1 k4 = true ∧ (p6 ≠ none → 0 < up_c)) ∧ ∃ (m7 : Mem), storeCs m1 k4 (offOf k5 p6 + i.toNat * 1) [Value.bool !b3] = some m7 ∧ W Try.prog { fn := fLaw14square, nt := 26, slots := [(0, Value.slice down_a down_l down_c), (4, Value.slice l_a l_l l_c), (5, Value.slice up_a up_l up_c), (6, Value.int IntKind.i64 (IntKind.i64.wrap (i + 1)))], todo := pt Try.prog fLaw14square [1, 1, 1, 0, 1, 0, 0] } m7 k2 Q) else Q (Value.tuple { toList := [Value.slice l_a l_l l_c, Value.slice up_a up_l up_c] }) m n) := by kernel_rfl

/- 17 leafmesh/fib.New -/
theorem xFibNew (m : Mem) (n : Nat) (Q : Value → Mem → Nat → Prop) (nodes : Int) (links_a : Option Addr) (links_l : Nat) (links_c : Nat) (self : Int) :
 Xc Try.prog xcfg 400 fFibNew [Value.int IntKind.i64 nodes, Value.slice links_a links_l links_c, Value.int IntKind.i64 self] m n Q =
 ((0 ≤ (↑links_l : Int) ∧ (↑links_l : Int) ≤ (↑links_l : Int) ∧ 2 * (↑links_l : Int) ≤ 281474976710656) ∧
 memLet (Tr.set m n (AObj.cells none tBool 1 (List.replicate (↑links_l : Int).toNat [Value.bool false]).flatten)) fun (m0 : Mem) =>
 Wc Try.prog fSpfDist [Value.int IntKind.i64 nodes, Value.slice links_a links_l links_c, Value.slice (some { block := n, off := 0 }) (↑links_l : Int).toNat (↑links_l : Int).toNat, Value.int IntKind.i64 0] m0 (n + 1) fun (v1 : Value) (m2 : Mem) (k3 : Nat) =>
 ∃ (p4 : Option Addr),
 ∃ (k5 : Nat),
 ∃ (k6 : Nat),
 v1 = Value.slice p4 k5 k6 ∧
 Later
 (bif (↑k5 : Int) == 0 then Q (Value.tuple { toList := [Value.pointer none, Value.int IntKind.i64 3] }) m2 k3
 else
 bif decide (self < 0) then Q (Value.tuple { toList := [Value.pointer none, Value.int IntKind.i64 2] }) m2 k3
 else bif decide (self ≥ nodes) then Q (Value.tuple { toList := [Value.pointer none, Value.int IntKind.i64 2] }) m2 k3 else Wc Try.prog fSlicesCloneLapiLinkapiLink [Value.slice links_a links_l links_c] m2 k3 fun (v7 : Value) (m8 : Mem) (k9 : Nat) => ∃ (p10 : Option Addr), ∃ (k11 : Nat), ∃ (k12 : Nat), v7 = Value.slice p10 k11 k12 ∧ Later (memLet (Tr.set m8 k9 (AObj.map [] 0)) fun (m13 : Mem) => memLet (Tr.set m13 (k9 + 1) (AObj.cells none tFibstate 5 [Value.int IntKind.i64 nodes, Value.int IntKind.i64 self, Value.slice p10 k11 k12, Value.slice none 0 0, Value.map (some k9)])) fun (m14 : Mem) => memLet (Tr.set m14 (k9 + 1 + 1) (AObj.cells none tFibFib 1 [Value.pointer (some { block := k9 + 1, off := 0 })])) fun (m15 : Mem) => Q (Value.tuple { toList := [Value.pointer (some { block := k9 + 1 + 1, off := 0 }), Value.int IntKind.i64 0] }) m15 (k9 + 1 + 1 + 1)))) := by kernel_rfl

/- 18 (*leafmesh/fib.Fib).Reach -/
theorem xFibFibReach (m : Mem) (n : Nat) (Q : Value → Mem → Nat → Prop) (f : Nat) :
 Xc Try.prog xcfg 400 fFibFibReach [Value.pointer (some { block := f, off := 0 })] m n Q =
 (Wc Try.prog fFibFibvalid [Value.pointer (some { block := f, off := 0 })] m n fun (v0 : Value) (m1 : Mem) (k2 : Nat) => ∃ (b3 : Bool), v0 = Value.bool b3 ∧ Later (bif !b3 then Q (Value.slice none 0 0) m1 k2 else isC m1 f = true ∧ ∃ (p4 : Option Addr), rd m1 f 0 = some (Value.pointer p4) ∧ elimP p4 False fun (k5 k6 : Nat) => isC m1 k5 = true ∧ ∃ (p7 : Option Addr), ∃ (k8 : Nat), ∃ (k9 : Nat), rd m1 k5 (k6 + 3) = some (Value.slice p7 k8 k9) ∧ W Try.prog { fn := fFibFibReach, nt := 28, slots := [(3, Value.slice none 0 0), (15, Value.slice p7 k8 k9), (16, Value.int IntKind.i64 (↑k8 : Int)), (17, Value.int IntKind.i64 0)], todo := pt Try.prog fFibFibReach [1, 1, 1, 0, 1, 0, 0] } m1 k2 Q)) := by kernel_rfl

theorem xFibFibReachk0 (m : Mem) (n : Nat) (Q : Value → Mem → Nat → Prop) (out'_a : Option Addr) (out'_l : Nat) (out'_c : Nat) (t15_a : Option Addr) (t15_l : Nat) (t15_c : Nat) (t16 : Int) (t17 : Int) :
 xF (evX Try.prog xcfg 400) { fn := fFibFibReach, nt := 28, slots := [(3, Value.slice out'_a out'_l out'_c), (15, Value.slice t15_a t15_l t15_c), (16, Value.int IntKind.i64 t16), (17, Value.int IntKind.i64 t17)], todo := pt Try.prog fFibFibReach [1, 1, 1, 0, 1, 0, 0] } m n Q =
 (bif decide (t17 < t16) then
 elimA t15_a False fun (k0 k1 : Nat) (p2 : Option Nat) =>
 (0 ≤ t17 ∧ t17 < (↑t15_l : Int) ∧ liveAt m k0 = true ∧ (p2 ≠ none → 0 < t15_c)) ∧
 ∃ (x3 : Int),
 ∃ (p4 : Option Addr),
 ∃ (k5 : Nat),
 ∃ (k6 : Nat),
 rds m k0 (offOf k1 p2 + t17.toNat * 2) 2 = some [Value.int IntKind.u32 x3, Value.slice p4 k5 k6] ∧
 memLet (Tr.set m n (AObj.cells none tFibentry 2 [Value.int IntKind.u32 0, Value.slice none 0 0])) fun (m7 : Mem) =>
 ∃ (m8 : Mem), storeCs m7 n 0 [Value.int IntKind.u32 x3, Value.slice p4 k5 k6] = some m8 ∧ isC m8 n = true ∧ ∃ (x9 : Int), rd m8 n 0 = some (Value.int IntKind.u32 x9) ∧ memLet (Tr.set m8 (n + 1) (AObj.cells none tApiIP 1 [Value.int IntKind.u32 x9])) fun (m10 : Mem) => ∃ (p11 : Option Addr), ∃ (k12 : Nat), ∃ (k13 : Nat), ∃ (m14 : Mem), ∃ (k15 : Nat), appendA Try.prog m10 (n + 1 + 1) tLapiIP tLapiIP (Value.slice out'_a out'_l out'_c) (Value.slice (some { block := n + 1, off := 0 }) 1 1) = Eff.val (Value.slice p11 k12 k13) m14 k15 ∧ W Try.prog { fn := fFibFibReach, nt := 28, slots := [(3, Value.slice p11 k12 k13), (15, Value.slice t15_a t15_l t15_c), (16, Value.int IntKind.i64 t16), (17, Value.int IntKind.i64 (IntKind.i64.wrap (t17 + 1)))], todo := pt Try.prog fFibFibReach [1, 1, 1, 0, 1, 0, 0] } m14 k15 Q
 else Q (Value.slice out'_a out'_l out'_c) m n) := by kernel_rfl

/- 19 leafmesh/leafmeshlaw14.refused -/
theorem xLaw14refused (m : Mem) (n : Nat) (Q : Value → Mem → Nat → Prop) (f : Nat) (p0 : Int) (p1 : Int) (p2 : Int) (p3 : Int) (p4 : Int) (p5 : Int) (p6 : Int) (p7 : Int) (p8 : Int) (p9 : Int) (p10 : Int) (p11 : Int) (p12 : Int) (p13 : Int) (p14 : Int) (p15 : Int) (p16 : Int) (p17 : Int) (p18 : Int) (p19 : Int) (p20 : Int) (want : Int) :
 Xc Try.prog xcfg 400 fLaw14refused [Value.pointer (some { block := f, off := 0 }), Value.agg { toList := [Value.int IntKind.u32 p0, Value.int IntKind.u32 p1, Value.int IntKind.i64 p2, Value.int IntKind.i64 p3, Value.int IntKind.u32 p4, Value.int IntKind.u32 p5, Value.int IntKind.u64 p6, Value.int IntKind.u64 p7, Value.int IntKind.i64 p8, Value.int IntKind.i64 p9, Value.int IntKind.u64 p10, Value.int IntKind.u32 p11, Value.int IntKind.u64 p12, Value.int IntKind.u32 p13, Value.int IntKind.u32 p14, Value.int IntKind.u32 p15, Value.int IntKind.i64 p16, Value.int IntKind.i64 p17, Value.int IntKind.i64 p18, Value.int IntKind.i64 p19, Value.int IntKind.u64 p20] }, Value.int IntKind.i64 want] m n Q =
 (memLet (Tr.set m n (AObj.cells none tApiPacket 21 [Value.int IntKind.u32 p0, Value.int IntKind.u32 p1, Value.int IntKind.i64 p2, Value.int IntKind.i64 p3, Value.int IntKind.u32 p4, Value.int IntKind.u32 p5, Value.int IntKind.u64 p6, Value.int IntKind.u64 p7, Value.int IntKind.i64 p8, Value.int IntKind.i64 p9, Value.int IntKind.u64 p10, Value.int IntKind.u32 p11, Value.int IntKind.u64 p12, Value.int IntKind.u32 p13, Value.int IntKind.u32 p14, Value.int IntKind.u32 p15, Value.int IntKind.i64 p16, Value.int IntKind.i64 p17, Value.int IntKind.i64 p18, Value.int IntKind.i64 p19, Value.int IntKind.u64 p20])) fun (m0 : Mem) =>
 ∃ (x1 : Int),
 ∃ (x2 : Int),
 ∃ (x3 : Int),
 ∃ (x4 : Int),
 ∃ (x5 : Int),
 ∃ (x6 : Int),
 ∃ (x7 : Int),
 ∃ (x8 : Int),
 ∃ (x9 : Int),
 ∃ (x10 : Int),
 ∃ (x11 : Int),
 ∃ (x12 : Int),
 ∃ (x13 : Int),
 ∃ (x14 : Int),
 ∃ (x15 : Int),
 ∃ (x16 : Int),
 ∃ (x17 : Int),
 ∃ (x18 : Int),
 ∃ (x19 : Int),
 ∃ (x20 : Int),
 ∃ (x21 : Int),
 rds m0 n 0 21 = some [Value.int IntKind.u32 x1, Value.int IntKind.u32 x2, Value.int IntKind.i64 x3, Value.int IntKind.i64 x4, Value.int IntKind.u32 x5, Value.int IntKind.u32 x6, Value.int IntKind.u64 x7, Value.int IntKind.u64 x8, Value.int IntKind.i64 x9, Value.int IntKind.i64 x10, Value.int IntKind.u64 x11, Value.int IntKind.u32 x12, Value.int IntKind.u64 x13, Value.int IntKind.u32 x14, Value.int IntKind.u32 x15, Value.int IntKind.u32 x16, Value.int IntKind.i64 x17, Value.int IntKind.i64 x18, Value.int IntKind.i64 x19, Value.int IntKind.i64 x20, Value.int IntKind.u64 x21] ∧
 Wc Try.prog fFibFibForward [Value.pointer (some { block := f, off := 0 }), Value.agg { toList := [Value.int IntKind.u32 x1, Value.int IntKind.u32 x2, Value.int IntKind.i64 x3, Value.int IntKind.i64 x4, Value.int IntKind.u32 x5, Value.int IntKind.u32 x6, Value.int IntKind.u64 x7, Value.int IntKind.u64 x8, Value.int IntKind.i64 x9, Value.int IntKind.i64 x10, Value.int IntKind.u64 x11, Value.int IntKind.u32 x12, Value.int IntKind.u64 x13, Value.int IntKind.u32 x14, Value.int IntKind.u32 x15, Value.int IntKind.u32 x16, Value.int IntKind.i64 x17, Value.int IntKind.i64 x18, Value.int IntKind.i64 x19, Value.int IntKind.i64 x20, Value.int IntKind.u64 x21] }] m0 (n + 1) fun (v22 : Value) (m23 : Mem) (k24 : Nat) =>
 ∃ (x25 : Int),
 ∃ (x26 : Int),
 ∃ (x27 : Int),
 ∃ (x28 : Int),
 ∃ (x29 : Int),
 ∃ (x30 : Int),
 ∃ (x31 : Int),
 ∃ (x32 : Int),
 ∃ (x33 : Int),
 ∃ (x34 : Int),
 ∃ (x35 : Int),
 ∃ (x36 : Int),
 ∃ (x37 : Int),
 ∃ (x38 : Int),
 ∃ (x39 : Int),
 ∃ (x40 : Int),
 ∃ (x41 : Int),
 ∃ (x42 : Int),
 ∃ (x43 : Int),
 ∃ (x44 : Int),
 ∃ (x45 : Int),
 ∃ (x46 : Int),
 ∃ (x47 : Int),
 v22 = Value.tuple { toList := [Value.int IntKind.i64 x25, Value.agg { toList := [Value.int IntKind.u32 x26, Value.int IntKind.u32 x27, Value.int IntKind.i64 x28, Value.int IntKind.i64 x29, Value.int IntKind.u32 x30, Value.int IntKind.u32 x31, Value.int IntKind.u64 x32, Value.int IntKind.u64 x33, Value.int IntKind.i64 x34, Value.int IntKind.i64 x35, Value.int IntKind.u64 x36, Value.int IntKind.u32 x37, Value.int IntKind.u64 x38, Value.int IntKind.u32 x39, Value.int IntKind.u32 x40, Value.int IntKind.u32 x41, Value.int IntKind.i64 x42, Value.int IntKind.i64 x43, Value.int IntKind.i64 x44, Value.int IntKind.i64 x45, Value.int IntKind.u64 x46] }, Value.int IntKind.i64 x47] } ∧
 Later
 (memLet (Tr.set m23 k24 (AObj.cells none tApiPacket 21 [Value.int IntKind.u32 0, Value.int IntKind.u32 0, Value.int IntKind.i64 0, Value.int IntKind.i64 0, Value.int IntKind.u32 0, Value.int IntKind.u32 0, Value.int IntKind.u64 0, Value.int IntKind.u64 0, Value.int IntKind.i64 0, Value.int IntKind.i64 0, Value.int IntKind.u64 0, Value.int IntKind.u32 0, Value.int IntKind.u64 0, Value.int IntKind.u32 0, Value.int IntKind.u32 0, Value.int IntKind.u32 0, Value.int IntKind.i64 0, Value.int IntKind.i64 0, Value.int IntKind.i64 0, Value.int IntKind.i64 0, Value.int IntKind.u64 0])) fun (m48 : Mem) =>
 ∃ (m49 : Mem),
 storeCs m48 k24 0 [Value.int IntKind.u32 x26, Value.int IntKind.u32 x27, Value.int IntKind.i64 x28, Value.int IntKind.i64 x29, Value.int IntKind.u32 x30, Value.int IntKind.u32 x31, Value.int IntKind.u64 x32, Value.int IntKind.u64 x33, Value.int IntKind.i64 x34, Value.int IntKind.i64 x35, Value.int IntKind.u64 x36, Value.int IntKind.u32 x37, Value.int IntKind.u64 x38, Value.int IntKind.u32 x39, Value.int IntKind.u32 x40, Value.int IntKind.u32 x41, Value.int IntKind.i64 x42, Value.int IntKind.i64 x43, Value.int IntKind.i64 x44, Value.int IntKind.i64 x45, Value.int IntKind.u64 x46] = some m49 ∧
 bif x47 == want then
 bif x25 == 0 then
 ∃ (x50 : Int),
 ∃ (x51 : Int),
 ∃ (x52 : Int),
 ∃ (x53 : Int),
 ∃ (x54 : Int),
 ∃ (x55 : Int),
 ∃ (x56 : Int),
 ∃ (x57 : Int),
 ∃ (x58 : Int),
 ∃ (x59 : Int),
 ∃ (x60 : Int),
 ∃ (x61 : Int),
 ∃ (x62 : Int),
 ∃ (x63 : Int),
 ∃ (x64 : Int),
 ∃ (x65 : Int),
 ∃ (x66 : Int),
 ∃ (x67 : Int),
 ∃ (x68 : Int),
 ∃ (x69 : Int),
 ∃ (x70 : Int),
 rds m49 k24 0 21 = some [Value.int IntKind.u32 x50, Value.int IntKind.u32 x51, Value.int IntKind.i64 x52, Value.int IntKind.i64 x53, Value.int IntKind.u32 x54, Value.int IntKind.u32 x55, Value.int IntKind.u64 x56, Value.int IntKind.u64 x57, Value.int IntKind.i64 x58, Value.int IntKind.i64 x59, Value.int IntKind.u64 x60, Value.int IntKind.u32 x61, Value.int IntKind.u64 x62, Value.int IntKind.u32 x63, Value.int IntKind.u32 x64, Value.int IntKind.u32 x65, Value.int IntKind.i64 x66, Value.int IntKind.i64 x67, Value.int IntKind.i64 x68, Value.int IntKind.i64 x69, Value.int IntKind.u64 x70] ∧
 Q (Value.bool (x50 == 0 && (x51 == 0 && (x52 == 0 && (x53 == 0 && (x54 == 0 && (x55 == 0 && (x56 == 0 && (x57 == 0 && (x58 == 0 && (x59 == 0 && (x60 == 0 && (x61 == 0 && (x62 == 0 && (x63 == 0 && true)))) && (x64 == 0 && (x65 == 0 && (x66 == 0 && (x67 == 0 && (x68 == 0 && (x69 == 0 && true))))) && (x70 == 0 && true))))) && true)))))))) m49 (k24 + 1)
 else Q (Value.bool false) m49 (k24 + 1)
 else Q (Value.bool false) m49 (k24 + 1))) := by kernel_rfl

/- 20 leafmesh/leafmeshlaw14.loop -/
theorem xLaw14loop (m : Mem) (n : Nat) (Q : Value → Mem → Nat → Prop) (n' : Int) :
 Xc Try.prog xcfg 400 fLaw14loop [Value.int IntKind.i64 n'] m n Q =
 (Wc Try.prog fAddrLoopback [Value.int IntKind.i64 n'] m n fun (v0 : Value) (m1 : Mem) (k2 : Nat) => ∃ (x3 : Int), ∃ (x4 : Int), v0 = Value.tuple { toList := [Value.int IntKind.u32 x3, Value.int IntKind.i64 x4] } ∧ Later (Q (Value.int IntKind.u32 x3) m1 k2)) := by kernel_rfl

/- 21 (*leafmesh/fib.Fib).Update -/
theorem xFibFibUpdate (m : Mem) (n : Nat) (Q : Value → Mem → Nat → Prop) (f : Nat) (up_a : Option Addr) (up_l : Nat) (up_c : Nat) :
 Xc Try.prog xcfg 400 fFibFibUpdate [Value.pointer (some { block := f, off := 0 }), Value.slice up_a up_l up_c] m n Q =
 (Wc Try.prog fFibFibvalid [Value.pointer (some { block := f, off := 0 })] m n fun (v0 : Value) (m1 : Mem) (k2 : Nat) =>
 ∃ (b3 : Bool),
 v0 = Value.bool b3 ∧
 Later
 (bif !b3 then Q (Value.int IntKind.i64 1) m1 k2
 else
 isC m1 f = true ∧
 ∃ (p4 : Option Addr),
 rd m1 f 0 = some (Value.pointer p4) ∧
 elimP p4 False fun (k5 k6 : Nat) =>
 isC m1 k5 = true ∧
 ∃ (p7 : Option Addr),
 ∃ (k8 : Nat),
 ∃ (k9 : Nat),
 rd m1 k5 (k6 + 2) = some (Value.slice p7 k8 k9) ∧
 bif (↑up_l : Int) != (↑k8 : Int) then Q (Value.int IntKind.i64 2) m1 k2
 else
 isC m1 f = true ∧
 ∃ (p10 : Option Addr),
 rd m1 f 0 = some (Value.pointer p10) ∧
 elimP p10 False fun (k11 k12 : Nat) =>
 isC m1 k11 = true ∧
 ∃ (m13 : Mem),
 storeCs m1 k11 (k12 + 3) [Value.slice none 0 0] = some m13 ∧
 isC m13 f = true ∧
 ∃ (p14 : Option Addr),
 rd m13 f 0 = some (Value.pointer p14) ∧
 elimP p14 False fun (k15 k16 : Nat) =>
 isC m13 k15 = true ∧
 ∃ (x17 : Int),
 rd m13 k15 (k16 + 0) = some (Value.int IntKind.i64 x17) ∧
 isC m13 f = true ∧
 ∃ (p18 : Option Addr),
 rd m13 f 0 = some (Value.pointer p18) ∧
 elimP p18 False fun (k19 k20 : Nat) =>
 isC m13 k19 = true ∧
 ∃ (p21 : Option Addr),
 ∃ (k22 : Nat),
 ∃ (k23 : Nat),
 rd m13 k19 (k20 + 2) = some (Value.slice p21 k22 k23) ∧
 isC m13 f = true ∧
 ∃ (p24 : Option Addr),
 rd m13 f 0 = some (Value.pointer p24) ∧ elimP p24 False fun (k25 k26 : Nat) => isC m13 k25 = true ∧ ∃ (x27 : Int), rd m13 k25 (k26 + 1) = some (Value.int IntKind.i64 x27) ∧ ∃ (p28 : Option Addr), ∃ (k29 : Nat), ∃ (k30 : Nat), ∃ (m31 : Mem), ∃ (k32 : Nat), (Wc Try.prog fFibOf [Value.int IntKind.i64 x17, Value.slice p21 k22 k23, Value.slice up_a up_l up_c, Value.int IntKind.i64 x27] m13 (k2 + 25) fun (v33 : Value) (m34 : Mem) (k35 : Nat) => v33 = Value.slice p28 k29 k30 ∧ m34 = m31 ∧ k35 = k32) ∧ Later (k2 + 25 ≤ k32 ∧ W Try.prog { fn := fFibFibUpdate, nt := 109, slots := [(0, Value.pointer (some { block := f, off := 0 })), (55, Value.slice p28 k29 k30), (56, Value.int IntKind.i64 (↑k29 : Int)), (57, Value.int IntKind.i64 0)], todo := pt Try.prog fFibFibUpdate [1, 1, 1, 0, 1, 0, 0] } m31 k32 Q))) := by kernel_rfl

theorem xFibFibUpdatek0 (m : Mem) (n : Nat) (Q : Value → Mem → Nat → Prop) (f : Nat) (t55_a : Option Addr) (t55_l : Nat) (t55_c : Nat) (t56 : Int) (t57 : Int) :
 xF (evX Try.prog xcfg 400) { fn := fFibFibUpdate, nt := 109, slots := [(0, Value.pointer (some { block := f, off := 0 })), (55, Value.slice t55_a t55_l t55_c), (56, Value.int IntKind.i64 t56), (57, Value.int IntKind.i64 t57)], todo := pt Try.prog fFibFibUpdate [1, 1, 1, 0, 1, 0, 0] } m n Q =
 (bif decide (t57 < t56) then
 elimA t55_a False fun (k0 k1 : Nat) (p2 : Option Nat) =>
 (0 ≤ t57 ∧ t57 < (↑t55_l : Int) ∧ liveAt m k0 = true ∧ (p2 ≠ none → 0 < t55_c)) ∧
 ∃ (x3 : Int),
 ∃ (p4 : Option Addr),
 ∃ (k5 : Nat),
 ∃ (k6 : Nat),
 rds m k0 (offOf k1 p2 + t57.toNat * 2) 2 = some [Value.int IntKind.u32 x3, Value.slice p4 k5 k6] ∧
 memLet (Tr.set m n (AObj.cells none tApiEntry 2 [Value.int IntKind.u32 0, Value.slice none 0 0])) fun (m7 : Mem) =>
 ∃ (m8 : Mem),
 storeCs m7 n 0 [Value.int IntKind.u32 x3, Value.slice p4 k5 k6] = some m8 ∧
 isC m8 f = true ∧
 ∃ (p9 : Option Addr),
 rd m8 f 0 = some (Value.pointer p9) ∧
 isC m8 f = true ∧
 ∃ (p10 : Option Addr),
 rd m8 f 0 = some (Value.pointer p10) ∧
 elimP p10 False fun (k11 k12 : Nat) =>
 isC m8 k11 = true ∧
 ∃ (p13 : Option Addr),
 ∃ (k14 : Nat),
 ∃ (k15 : Nat),
 rd m8 k11 (k12 + 3) = some (Value.slice p13 k14 k15) ∧
 ∃ (x16 : Int),
 ∃ (p17 : Option Addr),
 ∃ (k18 : Nat),
 ∃ (k19 : Nat),
 rds m8 n 0 2 = some [Value.int IntKind.u32 x16, Value.slice p17 k18 k19] ∧
 memLet (Tr.set m8 (n + 1 + 12) (AObj.cells none tFibentry 2 [Value.int IntKind.u32 x16, Value.slice p17 k18 k19])) fun (m20 : Mem) =>
 ∃ (p21 : Option Addr),
 ∃ (k22 : Nat),
 ∃ (k23 : Nat),
 ∃ (m24 : Mem),
 ∃ (k25 : Nat),
 appendA Try.prog m20 (n + 1 + 17) tLfibentry tLfibentry (Value.slice p13 k14 k15) (Value.slice (some { block := n + 1 + 12, off := 0 }) 1 1) = Eff.val (Value.slice p21 k22 k23) m24 k25 ∧
 elimP p9 False fun (k26 k27 : Nat) => isC m24 k26 = true ∧ ∃ (m28 : Mem), storeCs m24 k26 (k27 + 3) [Value.slice p21 k22 k23] = some m28 ∧ (∃ (p29 : Option Addr), rd m24 f 0 = some (Value.pointer p29) ∧ Value.pointer p29 = Value.pointer p9) ∧ (isC m24 f = true ∧ Value.pointer (some { block := f, off := 0 }) = Value.pointer (some { block := f, off := 0 })) ∧ n + 1 + 17 ≤ k25 ∧ n + 1 + 17 ≤ k25 ∧ W Try.prog { fn := fFibFibUpdate, nt := 109, slots := [(0, Value.pointer (some { block := f, off := 0 })), (55, Value.slice t55_a t55_l t55_c), (56, Value.int IntKind.i64 t56), (57, Value.int IntKind.i64 (IntKind.i64.wrap (t57 + 1)))], todo := pt Try.prog fFibFibUpdate [1, 1, 1, 0, 1, 0, 0] } m28 k25 Q
 else isC m f = true ∧ ∃ (p30 : Option Addr), rd m f 0 = some (Value.pointer p30) ∧ elimP p30 False fun (k31 k32 : Nat) => isC m k31 = true ∧ ∃ (x33 : Int), rd m k31 (k32 + 0) = some (Value.int IntKind.i64 x33) ∧ W Try.prog { fn := fFibFibUpdate, nt := 109, slots := [(0, Value.pointer (some { block := f, off := 0 })), (84, Value.int IntKind.i64 x33), (85, Value.int IntKind.i64 0)], todo := pt Try.prog fFibFibUpdate [1, 1, 1, 1, 0, 1, 0, 0] } m n Q) := by kernel_rfl

theorem xFibFibUpdatek1 (m : Mem) (n : Nat) (Q : Value → Mem → Nat → Prop) (f : Nat) (t84 : Int) (t85 : Int) :
 xF (evX Try.prog xcfg 400) { fn := fFibFibUpdate, nt := 109, slots := [(0, Value.pointer (some { block := f, off := 0 })), (84, Value.int IntKind.i64 t84), (85, Value.int IntKind.i64 t85)], todo := pt Try.prog fFibFibUpdate [1, 1, 1, 1, 0, 1, 0, 0] } m n Q =
 (bif decide (t85 < t84) then
 Wc Try.prog fAddrLoopback [Value.int IntKind.i64 t85] m n fun (v0 : Value) (m1 : Mem) (k2 : Nat) =>
 ∃ (x3 : Int),
 ∃ (x4 : Int),
 v0 = Value.tuple { toList := [Value.int IntKind.u32 x3, Value.int IntKind.i64 x4] } ∧
 Later
 (Wc Try.prog fFibFibLookup [Value.pointer (some { block := f, off := 0 }), Value.int IntKind.u32 x3] m1 k2 fun (v5 : Value) (m6 : Mem) (k7 : Nat) =>
 ∃ (p8 : Option Addr),
 ∃ (k9 : Nat),
 ∃ (k10 : Nat),
 v5 = Value.slice p8 k9 k10 ∧
 Later
 (isC m6 f = true ∧
 ∃ (p11 : Option Addr),
 rd m6 f 0 = some (Value.pointer p11) ∧
 ∃ (p12 : Option Addr),
 ∃ (m13 : Mem),
 ∃ (k14 : Nat),
 (Wc Try.prog fFibstatewheel [Value.pointer p11, Value.int IntKind.i64 t85] m6 (k7 + 12) fun (v15 : Value) (m16 : Mem) (k17 : Nat) => v15 = Value.pointer p12 ∧ m16 = m13 ∧ k17 = k14) ∧
 Later
 (elimA p8
 (((0 ≤ if 64 < (↑k9 : Int) then 64 else (↑k9 : Int)) ∧ (if 64 < (↑k9 : Int) then 64 else (↑k9 : Int)) ≤ (↑k10 : Int)) ∧
 ∃ (x18 : Int), ∃ (m19 : Mem), ∃ (k20 : Nat), (Wc Try.prog fSpreadWheelSet [Value.pointer p12, Value.slice none ((if 64 < (↑k9 : Int) then 64 else (↑k9 : Int)).toNat - 0) (k10 - 0)] m13 k14 fun (v21 : Value) (m22 : Mem) (k23 : Nat) => v21 = Value.int IntKind.i64 x18 ∧ m22 = m19 ∧ k23 = k20) ∧ Later (Value.int IntKind.i64 (if 64 < (↑k9 : Int) then 64 else (↑k9 : Int)) = Value.int IntKind.i64 (if 64 < (↑k9 : Int) then 64 else (↑k9 : Int)) ∧ Value.int IntKind.i64 (↑k9 : Int) = Value.int IntKind.i64 (↑k9 : Int) ∧ k7 + 12 ≤ k14 ∧ k7 + 12 ≤ k20 ∧ W Try.prog { fn := fFibFibUpdate, nt := 109, slots := [(0, Value.pointer (some { block := f, off := 0 })), (84, Value.int IntKind.i64 t84), (85, Value.int IntKind.i64 (IntKind.i64.wrap (t85 + 1)))], todo := pt Try.prog fFibFibUpdate [1, 1, 1, 1, 0, 1, 0, 0] } m19 k20 Q))
 fun (k24 k25 : Nat) (p26 : Option Nat) =>
 ((0 ≤ if 64 < (↑k9 : Int) then 64 else (↑k9 : Int)) ∧ (if 64 < (↑k9 : Int) then 64 else (↑k9 : Int)) ≤ (↑k10 : Int)) ∧
 elimM p26
 (∃ (x27 : Int),
 ∃ (m28 : Mem),
 ∃ (k29 : Nat), (Wc Try.prog fSpreadWheelSet [Value.pointer p12, Value.slice (some { block := k24, off := if k10 = 0 then k25 else k25 + 0 }) ((if 64 < (↑k9 : Int) then 64 else (↑k9 : Int)).toNat - 0) (k10 - 0)] m13 k14 fun (v30 : Value) (m31 : Mem) (k32 : Nat) => v30 = Value.int IntKind.i64 x27 ∧ m31 = m28 ∧ k32 = k29) ∧ Later (Value.int IntKind.i64 (if 64 < (↑k9 : Int) then 64 else (↑k9 : Int)) = Value.int IntKind.i64 (if 64 < (↑k9 : Int) then 64 else (↑k9 : Int)) ∧ Value.int IntKind.i64 (↑k9 : Int) = Value.int IntKind.i64 (↑k9 : Int) ∧ k7 + 12 ≤ k14 ∧ k7 + 12 ≤ k29 ∧ W Try.prog { fn := fFibFibUpdate, nt := 109, slots := [(0, Value.pointer (some { block := f, off := 0 })), (84, Value.int IntKind.i64 t84), (85, Value.int IntKind.i64 (IntKind.i64.wrap (t85 + 1)))], todo := pt Try.prog fFibFibUpdate [1, 1, 1, 1, 0, 1, 0, 0] } m28 k29 Q))
 fun (k33 : Nat) =>
 (0 ≤ k10 ∧ 0 < k10) ∧
 ∃ (x34 : Int),
 ∃ (m35 : Mem),
 ∃ (k36 : Nat),
 (Wc Try.prog fSpreadWheelSet [Value.pointer p12, Value.slice (some { block := k24, off := if k10 = 0 then k33 else k33 + 0, spot := some (k33 + 0) }) ((if 64 < (↑k9 : Int) then 64 else (↑k9 : Int)).toNat - 0) (k10 - 0)] m13 k14 fun (v37 : Value) (m38 : Mem) (k39 : Nat) => v37 = Value.int IntKind.i64 x34 ∧ m38 = m35 ∧ k39 = k36) ∧
 Later (Value.int IntKind.i64 (if 64 < (↑k9 : Int) then 64 else (↑k9 : Int)) = Value.int IntKind.i64 (if 64 < (↑k9 : Int) then 64 else (↑k9 : Int)) ∧ Value.int IntKind.i64 (↑k9 : Int) = Value.int IntKind.i64 (↑k9 : Int) ∧ k7 + 12 ≤ k14 ∧ k7 + 12 ≤ k36 ∧ W Try.prog { fn := fFibFibUpdate, nt := 109, slots := [(0, Value.pointer (some { block := f, off := 0 })), (84, Value.int IntKind.i64 t84), (85, Value.int IntKind.i64 (IntKind.i64.wrap (t85 + 1)))], todo := pt Try.prog fFibFibUpdate [1, 1, 1, 1, 0, 1, 0, 0] } m35 k36 Q))))
 else Q (Value.int IntKind.i64 0) m n) := by kernel_rfl

/- 22 leafmesh/leafmeshkit.Same[leafmesh/api.IP] -/
theorem xKitSameapiIP (m : Mem) (n : Nat) (Q : Value → Mem → Nat → Prop) (a_a : Option Addr) (a_l : Nat) (a_c : Nat) (b_a : Option Addr) (b_l : Nat) (b_c : Nat) :
 Xc Try.prog xcfg 400 fKitSameapiIP [Value.slice a_a a_l a_c, Value.slice b_a b_l b_c] m n Q =
 (bif (↑a_l : Int) != (↑b_l : Int) then Q (Value.bool false) m n else W Try.prog { fn := fKitSameapiIP, nt := 26, slots := [(0, Value.slice a_a a_l a_c), (1, Value.slice b_a b_l b_c), (5, Value.int IntKind.i64 0)], todo := pt Try.prog fKitSameapiIP [1, 1, 0, 1, 0, 0] } m n Q) := by kernel_rfl

theorem xKitSameapiIPk0 (m : Mem) (n : Nat) (Q : Value → Mem → Nat → Prop) (a_a : Option Addr) (a_l : Nat) (a_c : Nat) (b_a : Option Addr) (b_l : Nat) (b_c : Nat) (i : Int) :
 xF (evX Try.prog xcfg 400) { fn := fKitSameapiIP, nt := 26, slots := [(0, Value.slice a_a a_l a_c), (1, Value.slice b_a b_l b_c), (5, Value.int IntKind.i64 i)], todo := pt Try.prog fKitSameapiIP [1, 1, 0, 1, 0, 0] } m n Q =
 (bif decide (i < (↑a_l : Int)) then elimA a_a False fun (k0 k1 : Nat) (p2 : Option Nat) => (0 ≤ i ∧ i < (↑a_l : Int) ∧ liveAt m k0 = true ∧ (p2 ≠ none → 0 < a_c)) ∧ ∃ (x3 : Int), rd m k0 (offOf k1 p2 + i.toNat * 1) = some (Value.int IntKind.u32 x3) ∧ elimA b_a False fun (k4 k5 : Nat) (p6 : Option Nat) => (0 ≤ i ∧ i < (↑b_l : Int) ∧ liveAt m k4 = true ∧ (p6 ≠ none → 0 < b_c)) ∧ ∃ (x7 : Int), rd m k4 (offOf k5 p6 + i.toNat * 1) = some (Value.int IntKind.u32 x7) ∧ bif x3 != x7 then Q (Value.bool false) m (n + 9) else W Try.prog { fn := fKitSameapiIP, nt := 26, slots := [(0, Value.slice a_a a_l a_c), (1, Value.slice b_a b_l b_c), (5, Value.int IntKind.i64 (IntKind.i64.wrap (i + 1)))], todo := pt Try.prog fKitSameapiIP [1, 1, 0, 1, 0, 0] } m (n + 9) Q else Q (Value.bool true) m n) := by kernel_rfl

/- 23 leafmesh/leafmeshkit.Same[int] -/
theorem xKitSameint (m : Mem) (n : Nat) (Q : Value → Mem → Nat → Prop) (a_a : Option Addr) (a_l : Nat) (a_c : Nat) (b_a : Option Addr) (b_l : Nat) (b_c : Nat) :
 Xc Try.prog xcfg 400 fKitSameint [Value.slice a_a a_l a_c, Value.slice b_a b_l b_c] m n Q =
 (bif (↑a_l : Int) != (↑b_l : Int) then Q (Value.bool false) m n else W Try.prog { fn := fKitSameint, nt := 26, slots := [(0, Value.slice a_a a_l a_c), (1, Value.slice b_a b_l b_c), (5, Value.int IntKind.i64 0)], todo := pt Try.prog fKitSameint [1, 1, 0, 1, 0, 0] } m n Q) := by kernel_rfl

theorem xKitSameintk0 (m : Mem) (n : Nat) (Q : Value → Mem → Nat → Prop) (a_a : Option Addr) (a_l : Nat) (a_c : Nat) (b_a : Option Addr) (b_l : Nat) (b_c : Nat) (i : Int) :
 xF (evX Try.prog xcfg 400) { fn := fKitSameint, nt := 26, slots := [(0, Value.slice a_a a_l a_c), (1, Value.slice b_a b_l b_c), (5, Value.int IntKind.i64 i)], todo := pt Try.prog fKitSameint [1, 1, 0, 1, 0, 0] } m n Q =
 (bif decide (i < (↑a_l : Int)) then elimA a_a False fun (k0 k1 : Nat) (p2 : Option Nat) => (0 ≤ i ∧ i < (↑a_l : Int) ∧ liveAt m k0 = true ∧ (p2 ≠ none → 0 < a_c)) ∧ ∃ (x3 : Int), rd m k0 (offOf k1 p2 + i.toNat * 1) = some (Value.int IntKind.i64 x3) ∧ elimA b_a False fun (k4 k5 : Nat) (p6 : Option Nat) => (0 ≤ i ∧ i < (↑b_l : Int) ∧ liveAt m k4 = true ∧ (p6 ≠ none → 0 < b_c)) ∧ ∃ (x7 : Int), rd m k4 (offOf k5 p6 + i.toNat * 1) = some (Value.int IntKind.i64 x7) ∧ bif x3 != x7 then Q (Value.bool false) m (n + 9) else W Try.prog { fn := fKitSameint, nt := 26, slots := [(0, Value.slice a_a a_l a_c), (1, Value.slice b_a b_l b_c), (5, Value.int IntKind.i64 (IntKind.i64.wrap (i + 1)))], todo := pt Try.prog fKitSameint [1, 1, 0, 1, 0, 0] } m (n + 9) Q else Q (Value.bool true) m n) := by kernel_rfl

/- 24 (*leafmesh/fib.Fib).Lookup -/
theorem xFibFibLookup (m : Mem) (n : Nat) (Q : Value → Mem → Nat → Prop) (f : Nat) (dst : Int) :
 Xc Try.prog xcfg 400 fFibFibLookup [Value.pointer (some { block := f, off := 0 }), Value.int IntKind.u32 dst] m n Q =
 (Wc Try.prog fFibFibvalid [Value.pointer (some { block := f, off := 0 })] m n fun (v0 : Value) (m1 : Mem) (k2 : Nat) =>
 ∃ (b3 : Bool),
 v0 = Value.bool b3 ∧
 Later
 (bif !b3 then Q (Value.slice none 0 0) m1 k2
 else
 isC m1 f = true ∧
 ∃ (p4 : Option Addr),
 rd m1 f 0 = some (Value.pointer p4) ∧
 Wc Try.prog fFibstatefind [Value.pointer p4, Value.int IntKind.u32 dst] m1 k2 fun (v5 : Value) (m6 : Mem) (k7 : Nat) =>
 ∃ (x8 : Int),
 ∃ (b9 : Bool),
 v5 = Value.tuple { toList := [Value.int IntKind.i64 x8, Value.bool b9] } ∧
 Later (bif !b9 then Q (Value.slice none 0 0) m6 k7 else isC m6 f = true ∧ ∃ (p10 : Option Addr), rd m6 f 0 = some (Value.pointer p10) ∧ elimP p10 False fun (k11 k12 : Nat) => isC m6 k11 = true ∧ ∃ (p13 : Option Addr), ∃ (k14 : Nat), ∃ (k15 : Nat), rd m6 k11 (k12 + 3) = some (Value.slice p13 k14 k15) ∧ elimA p13 False fun (k16 k17 : Nat) (p18 : Option Nat) => (0 ≤ x8 ∧ x8 < (↑k14 : Int) ∧ liveAt m6 k16 = true ∧ (p18 ≠ none → 0 < k15)) ∧ isC m6 k16 = true ∧ ∃ (p19 : Option Addr), ∃ (k20 : Nat), ∃ (k21 : Nat), rd m6 k16 (offOf k17 p18 + x8.toNat * 2 + 1) = some (Value.slice p19 k20 k21) ∧ Wc Try.prog fSlicesCloneLintint [Value.slice p19 k20 k21] m6 k7 fun (v22 : Value) (m23 : Mem) (k24 : Nat) => ∃ (p25 : Option Addr), ∃ (k26 : Nat), ∃ (k27 : Nat), v22 = Value.slice p25 k26 k27 ∧ Later (Q (Value.slice p25 k26 k27) m23 k24)))) := by kernel_rfl

/- 25 leafmesh/leafmeshlaw14.tables -/
theorem xLaw14tables (m : Mem) (n : Nat) (Q : Value → Mem → Nat → Prop) (x0 : Int) (x1_a : Option Addr) (x1_l : Nat) (x1_c : Nat) (x2_a : Option Addr) (x2_l : Nat) (x2_c : Nat) :
 Xc Try.prog xcfg 400 fLaw14tables [Value.agg { toList := [Value.int IntKind.i64 x0, Value.slice x1_a x1_l x1_c, Value.slice x2_a x2_l x2_c] }] m n Q =
 (memLet (Tr.set m n (AObj.cells none tLaw14Net 3 [Value.int IntKind.i64 x0, Value.slice x1_a x1_l x1_c, Value.slice x2_a x2_l x2_c])) fun (m0 : Mem) => isC m0 n = true ∧ ∃ (p1 : Option Addr), ∃ (k2 : Nat), ∃ (k3 : Nat), rd m0 n 1 = some (Value.slice p1 k2 k3) ∧ bif decide ((↑k2 : Int) > 60) then Q (Value.slice none 0 0) m0 (n + 1) else isC m0 n = true ∧ ∃ (p4 : Option Addr), ∃ (k5 : Nat), ∃ (k6 : Nat), rd m0 n 2 = some (Value.slice p4 k5 k6) ∧ isC m0 n = true ∧ ∃ (p7 : Option Addr), ∃ (k8 : Nat), ∃ (k9 : Nat), rd m0 n 1 = some (Value.slice p7 k8 k9) ∧ bif (↑k5 : Int) != (↑k8 : Int) then Q (Value.slice none 0 0) m0 (n + 1) else W Try.prog { fn := fLaw14tables, nt := 53, slots := [(1, Value.pointer (some { block := n, off := 0 })), (3, Value.slice none 0 0), (4, Value.int IntKind.i64 0)], todo := pt Try.prog fLaw14tables [1, 1, 1, 0, 1, 0, 0] } m0 (n + 1) Q) := by kernel_rfl

theorem xLaw14tablesk0 (m : Mem) (n : Nat) (Q : Value → Mem → Nat → Prop) (x : Nat) (out'_a : Option Addr) (out'_l : Nat) (out'_c : Nat) (n' : Int) :
 xF (evX Try.prog xcfg 400) { fn := fLaw14tables, nt := 53, slots := [(1, Value.pointer (some { block := x, off := 0 })), (3, Value.slice out'_a out'_l out'_c), (4, Value.int IntKind.i64 n')], todo := pt Try.prog fLaw14tables [1, 1, 1, 0, 1, 0, 0] } m n Q =
 (isC m x = true ∧
 ∃ (x0 : Int),
 rd m x 0 = some (Value.int IntKind.i64 x0) ∧
 bif decide (n' < x0) then
 isC m x = true ∧
 ∃ (x1 : Int),
 rd m x 0 = some (Value.int IntKind.i64 x1) ∧
 isC m x = true ∧
 ∃ (p2 : Option Addr),
 ∃ (k3 : Nat),
 ∃ (k4 : Nat),
 rd m x 1 = some (Value.slice p2 k3 k4) ∧
 Wc Try.prog fFibNew [Value.int IntKind.i64 x1, Value.slice p2 k3 k4, Value.int IntKind.i64 n'] m n fun (v5 : Value) (m6 : Mem) (k7 : Nat) =>
 ∃ (p8 : Option Addr),
 ∃ (x9 : Int),
 v5 = Value.tuple { toList := [Value.pointer p8, Value.int IntKind.i64 x9] } ∧
 Later
 (bif x9 != 0 then Q (Value.slice none 0 0) m6 k7
 else
 bif p8.isNone then Q (Value.slice none 0 0) m6 k7
 else
 isC m6 x = true ∧
 ∃ (p10 : Option Addr),
 ∃ (k11 : Nat),
 ∃ (k12 : Nat),
 rd m6 x 2 = some (Value.slice p10 k11 k12) ∧
 Wc Try.prog fFibFibUpdate [Value.pointer p8, Value.slice p10 k11 k12] m6 k7 fun (v13 : Value) (m14 : Mem) (k15 : Nat) => ∃ (x16 : Int), v13 = Value.int IntKind.i64 x16 ∧ Later (bif x16 != 0 then Q (Value.slice none 0 0) m14 k15 else memLet (Tr.set m14 k15 (AObj.cells none tPfibFib 1 [Value.pointer p8])) fun (m17 : Mem) => ∃ (p18 : Option Addr), ∃ (k19 : Nat), ∃ (k20 : Nat), ∃ (m21 : Mem), ∃ (k22 : Nat), appendA Try.prog m17 (k15 + 1) tLPfibFib tLPfibFib (Value.slice out'_a out'_l out'_c) (Value.slice (some { block := k15, off := 0 }) 1 1) = Eff.val (Value.slice p18 k19 k20) m21 k22 ∧ W Try.prog { fn := fLaw14tables, nt := 53, slots := [(1, Value.pointer (some { block := x, off := 0 })), (3, Value.slice p18 k19 k20), (4, Value.int IntKind.i64 (IntKind.i64.wrap (n' + 1)))], todo := pt Try.prog fLaw14tables [1, 1, 1, 0, 1, 0, 0] } m21 k22 Q))
 else Q (Value.slice out'_a out'_l out'_c) m n) := by kernel_rfl

/- 26 leafmesh/leafmeshkit.Pick -/
theorem xKitPick (m : Mem) (n : Nat) (Q : Value → Mem → Nat → Prop) (x : Int) (n' : Int) :
 Xc Try.prog xcfg 400 fKitPick [Value.int IntKind.i64 x, Value.int IntKind.i64 n'] m n Q =
 (n' ≠ 0 ∧ bif decide (x.tmod n' < 0) then Q (Value.int IntKind.i64 (IntKind.i64.wrap (x.tmod n' + n'))) m n else Q (Value.int IntKind.i64 (x.tmod n')) m n) := by kernel_rfl

/- 27 leafmesh/spf.Dist -/
theorem xSpfDist (m : Mem) (n : Nat) (Q : Value → Mem → Nat → Prop) (nodes : Int) (links_a : Option Addr) (links_l : Nat) (links_c : Nat) (up_a : Option Addr) (up_l : Nat) (up_c : Nat) (from' : Int) :
 Xc Try.prog xcfg 400 fSpfDist [Value.int IntKind.i64 nodes, Value.slice links_a links_l links_c, Value.slice up_a up_l up_c, Value.int IntKind.i64 from'] m n Q =
 (memLet (Tr.set m n (AObj.cells none tInt 1 [Value.int IntKind.i64 from'])) fun (m0 : Mem) =>
 Wc Try.prog fSpfvalid [Value.int IntKind.i64 nodes, Value.slice links_a links_l links_c, Value.slice up_a up_l up_c, Value.slice (some { block := n, off := 0 }) 1 1] m0 (n + 1) fun (v1 : Value) (m2 : Mem) (k3 : Nat) =>
 ∃ (b4 : Bool),
 v1 = Value.bool b4 ∧
 Later
 (bif !b4 then ∃ (l5 : List Nat), ([] = List.map collD l5 ∧ List.Pairwise (fun (x1 x2 : Nat) => x1 ≠ x2) l5 ∧ ∀ (k6 : Nat), List.Mem k6 l5 → Tr.get m2 k6 = some (AObj.deferred (some []))) ∧ memLet (clrAll l5 m2) fun (m7 : Mem) => Q (Value.slice none 0 0) m7 k3
 else
 memLet (Tr.set m2 k3 (AObj.cells none tInt 1 [Value.int IntKind.i64 (-1)])) fun (m8 : Mem) =>
 Wc Try.prog fSlicesRepeatLintint [Value.slice (some { block := k3, off := 0 }) 1 1, Value.int IntKind.i64 nodes] m8 (k3 + 1) fun (v9 : Value) (m10 : Mem) (k11 : Nat) =>
 ∃ (p12 : Option Addr),
 ∃ (k13 : Nat),
 ∃ (k14 : Nat),
 v9 = Value.slice p12 k13 k14 ∧
 Later
 (memLet (Tr.set m10 k11 (AObj.cells none tLint 1 [Value.slice none 0 0])) fun (m15 : Mem) =>
 ∃ (m16 : Mem),
 storeCs m15 k11 0 [Value.slice p12 k13 k14] = some m16 ∧
 memLet (Tr.set m16 (k11 + 1) (AObj.cells none tSpffar 2 [Value.int IntKind.i64 from', Value.int IntKind.i64 0])) fun (m17 : Mem) => memLet (Tr.set m17 (k11 + 1 + 1) (AObj.cells none tSpfqueue 1 [Value.slice (some { block := k11 + 1, off := 0 }) 1 1])) fun (m18 : Mem) => memLet (Tr.set m18 (k11 + 1 + 1 + 1) (AObj.cells none tPspfqueue 1 [Value.pointer none])) fun (m19 : Mem) => ∃ (m20 : Mem), storeCs m19 (k11 + 1 + 1 + 1) 0 [Value.pointer (some { block := k11 + 1 + 1, off := 0 })] = some m20 ∧ W Try.prog { fn := fSpfDist, nt := 80, slots := [(1, Value.slice links_a links_l links_c), (2, Value.slice up_a up_l up_c), (9, Value.pointer (some { block := k11, off := 0 })), (10, Value.pointer (some { block := k11 + 1 + 1 + 1, off := 0 }))], todo := pt Try.prog fSpfDist [1, 1, 1, 1, 0, 0, 0] } m20 (k11 + 1 + 1 + 1 + 1) Q))) := by kernel_rfl

theorem xSpfDistk0 (m : Mem) (n : Nat) (Q : Value → Mem → Nat → Prop) (links_a : Option Addr) (links_l : Nat) (links_c : Nat) (up_a : Option Addr) (up_l : Nat) (up_c : Nat) (out' : Nat) (q : Nat) (ds : List Deferred) :
 xF (evX Try.prog xcfg 400) { fn := fSpfDist, nt := 80, slots := [(1, Value.slice links_a links_l links_c), (2, Value.slice up_a up_l up_c), (9, Value.pointer (some { block := out', off := 0 })), (10, Value.pointer (some { block := q, off := 0 }))], todo := pt Try.prog fSpfDist [1, 1, 1, 1, 0, 0, 0], defers := ds } m n Q =
 (∃ (p0 : Option Addr),
 rd m q 0 = some (Value.pointer p0) ∧
 elimP p0 False fun (k1 k2 : Nat) =>
 ∃ (p3 : Option Addr),
 ∃ (k4 : Nat),
 ∃ (k5 : Nat),
 rd m k1 k2 = some (Value.slice p3 k4 k5) ∧
 Wc Try.prog fSpfqueueLen [Value.slice p3 k4 k5] m n fun (v6 : Value) (m7 : Mem) (k8 : Nat) =>
 ∃ (x9 : Int),
 v6 = Value.int IntKind.i64 x9 ∧
 Later
 (bif decide (x9 > 0) then
 ∃ (p10 : Option Addr),
 rd m7 q 0 = some (Value.pointer p10) ∧
 Wc Try.prog fContainerheapPop [Value.iface tPspfqueue (Value.pointer p10)] m7 k8 fun (v11 : Value) (m12 : Mem) (k13 : Nat) =>
 ∃ (x14 : Int),
 ∃ (x15 : Int),
 v11 = Value.iface tSpffar (Value.agg { toList := [Value.int IntKind.i64 x14, Value.int IntKind.i64 x15] }) ∧
 Later
 (102 = 102 ∧
 ∃ (x16 : Int),
 ∃ (x17 : Int),
 Value.agg { toList := [Value.int IntKind.i64 x14, Value.int IntKind.i64 x15] } = Value.agg { toList := [Value.int IntKind.i64 x16, Value.int IntKind.i64 x17] } ∧
 memLet (Tr.set m12 k13 (AObj.cells none tSpffar 2 [Value.int IntKind.i64 0, Value.int IntKind.i64 0])) fun (m18 : Mem) =>
 ∃ (m19 : Mem),
 storeCs m18 k13 0 [Value.int IntKind.i64 x16, Value.int IntKind.i64 x17] = some m19 ∧
 ∃ (p20 : Option Addr),
 ∃ (k21 : Nat),
 ∃ (k22 : Nat),
 rd m19 out' 0 = some (Value.slice p20 k21 k22) ∧
 isC m19 k13 = true ∧
 ∃ (x23 : Int),
 rd m19 k13 0 = some (Value.int IntKind.i64 x23) ∧
 elimA p20 False fun (k24 k25 : Nat) (p26 : Option Nat) =>
 (0 ≤ x23 ∧ x23 < (↑k21 : Int) ∧ liveAt m19 k24 = true ∧ (p26 ≠ none → 0 < k22)) ∧
 ∃ (x27 : Int),
 rd m19 k24 (offOf k25 p26 + x23.toNat * 1) = some (Value.int IntKind.i64 x27) ∧
 bif decide (x27 ≥ 0) then W Try.prog { fn := fSpfDist, nt := 80, slots := [(1, Value.slice links_a links_l links_c), (2, Value.slice up_a up_l up_c), (9, Value.pointer (some { block := out', off := 0 })), (10, Value.pointer (some { block := q, off := 0 }))], todo := pt Try.prog fSpfDist [1, 1, 1, 1, 0, 0, 0], defers := ds } m19 (k13 + 1) Q
 else
 ∃ (p28 : Option Addr),
 ∃ (k29 : Nat),
 ∃ (k30 : Nat),
 rd m19 out' 0 = some (Value.slice p28 k29 k30) ∧
 isC m19 k13 = true ∧
 ∃ (x31 : Int),
 rd m19 k13 0 = some (Value.int IntKind.i64 x31) ∧
 isC m19 k13 = true ∧
 ∃ (x32 : Int),
 rd m19 k13 1 = some (Value.int IntKind.i64 x32) ∧
 elimA p28 False fun (k33 k34 : Nat) (p35 : Option Nat) =>
 (0 ≤ x31 ∧ x31 < (↑k29 : Int) ∧ liveAt m19 k33 = true ∧ (p35 ≠ none → 0 < k30)) ∧
 ∃ (m36 : Mem),
 storeCs m19 k33 (offOf k34 p35 + x31.toNat * 1) [Value.int IntKind.i64 x32] = some m36 ∧
 Wc Try.prog fSpffilterapiLink [Value.slice links_a links_l links_c, Value.slice up_a up_l up_c] m36 (k13 + 1) fun (v37 : Value) (m38 : Mem) (k39 : Nat) =>
 ∃ (y40 : FuncId),
 ∃ (l41 : List Value),
 ∃ (l42 : List Value),
 v37 = Value.func (Fn.func y40) { toList := l41 } { toList := l42 } ∧
 Later
 (memLet ((Tr.set m38 k39 (AObj.deferred (some []))).set (k39 + 1) (loopO fSpfDist 80 [(1, Value.slice links_a links_l links_c), (2, Value.slice up_a up_l up_c), (9, Value.pointer (some { block := out', off := 0 })), (10, Value.pointer (some { block := q, off := 0 })), (11, Value.pointer (some { block := k13, off := 0 })), (52, Value.func (Fn.func y40) { toList := l41 } { toList := l42 })] LoopState.ready none (pt Try.prog fSpfDist [1, 1, 1, 1, 0, 0, 0, 1, 0, 1, 1, 1, 1, 0]) k39)) fun (m43 : Mem) =>
 Wc Try.prog y40 (l41 ++ [Value.func (Fn.yield (k39 + 1)) { toList := [] } { toList := [] }] ++ l42) m43 (k39 + 2) fun (v44 : Value) (m45 : Mem) (k46 : Nat) =>
 ∃ (y47 : LoopState),
 ∃ (p48 : Option Code),
 Tr.get m45 (k39 + 1) = some (loopO fSpfDist 80 [(1, Value.slice links_a links_l links_c), (2, Value.slice up_a up_l up_c), (9, Value.pointer (some { block := out', off := 0 })), (10, Value.pointer (some { block := q, off := 0 })), (11, Value.pointer (some { block := k13, off := 0 })), (52, Value.func (Fn.func y40) { toList := l41 } { toList := l42 })] y47 p48 (pt Try.prog fSpfDist [1, 1, 1, 1, 0, 0, 0, 1, 0, 1, 1, 1, 1, 0]) k39) ∧
 isBusy y47 = false ∧
 Later
 (memLet (Tr.set m45 (k39 + 1) (loopO fSpfDist 80 [(1, Value.slice links_a links_l links_c), (2, Value.slice up_a up_l up_c), (9, Value.pointer (some { block := out', off := 0 })), (10, Value.pointer (some { block := q, off := 0 })), (11, Value.pointer (some { block := k13, off := 0 })), (52, Value.func (Fn.func y40) { toList := l41 } { toList := l42 })] LoopState.exhausted p48 (pt Try.prog fSpfDist [1, 1, 1, 1, 0, 0, 0, 1, 0, 1, 1, 1, 1, 0]) k39)) fun (m49 : Mem) =>
 elimJ p48 (W Try.prog { fn := fSpfDist, nt := 80, slots := [(1, Value.slice links_a links_l links_c), (2, Value.slice up_a up_l up_c), (9, Value.pointer (some { block := out', off := 0 })), (10, Value.pointer (some { block := q, off := 0 }))], todo := pt Try.prog fSpfDist [1, 1, 1, 1, 0, 0, 0], defers := { target := Target.collected k39, args := { toList := [] } } :: ds } m49 k46 Q) (∃ (l50 : List Nat), ({ target := Target.collected k39, args := { toList := [] } } :: ds = List.map collD l50 ∧ List.Pairwise (fun (x1 x2 : Nat) => x1 ≠ x2) l50 ∧ ∀ (k51 : Nat), List.Mem k51 l50 → Tr.get m49 k51 = some (AObj.deferred (some []))) ∧ False) fun (y53 : Code) => False)))
 else ∃ (p54 : Option Addr), ∃ (k55 : Nat), ∃ (k56 : Nat), rd m7 out' 0 = some (Value.slice p54 k55 k56) ∧ ∃ (l57 : List Nat), (ds = List.map collD l57 ∧ List.Pairwise (fun (x1 x2 : Nat) => x1 ≠ x2) l57 ∧ ∀ (k58 : Nat), List.Mem k58 l57 → Tr.get m7 k58 = some (AObj.deferred (some []))) ∧ memLet (clrAll l57 m7) fun (m59 : Mem) => Q (Value.slice p54 k55 k56) m59 k8)) := by kernel_rfl

theorem xSpfDistr1 (m : Mem) (n : Nat) (Q : Value → Mem → Nat → Prop) (links_a : Option Addr) (links_l : Nat) (links_c : Nat) (up_a : Option Addr) (up_l : Nat) (up_c : Nat) (out' : Nat) (q : Nat) (x : Nat) (t52 : Value) (Y : Nat) (t53v : Int) (t54v0 : Int) (t54v1 : Int) (t54v2 : Int) :
 xF (evX Try.prog xcfg 400) (roundF fSpfDist 80 [(1, Value.slice links_a links_l links_c), (2, Value.slice up_a up_l up_c), (9, Value.pointer (some { block := out', off := 0 })), (10, Value.pointer (some { block := q, off := 0 })), (11, Value.pointer (some { block := x, off := 0 })), (52, t52)] (pt Try.prog fSpfDist [1, 1, 1, 1, 0, 0, 0, 1, 0, 1, 1, 1, 1, 0]) [Value.int IntKind.i64 t53v, Value.agg { toList := [Value.int IntKind.i64 t54v0, Value.int IntKind.i64 t54v1, Value.int IntKind.i64 t54v2] }] Y) m n Q =
 (memLet (Tr.set m n (AObj.cells none tApiLink 3 [Value.int IntKind.i64 0, Value.int IntKind.i64 0, Value.int IntKind.i64 0])) fun (m0 : Mem) =>
 ∃ (m1 : Mem),
 storeCs m0 n 0 [Value.int IntKind.i64 t54v0, Value.int IntKind.i64 t54v1, Value.int IntKind.i64 t54v2] = some m1 ∧
 ∃ (y2 : AObj),
 Tr.get m1 Y = some y2 ∧
 lpReady y2 = true ∧
 memLet (Tr.set m1 Y (lpBusy y2)) fun (m3 : Mem) =>
 ∃ (x4 : Int),
 ∃ (x5 : Int),
 ∃ (x6 : Int),
 rds m3 n 0 3 = some [Value.int IntKind.i64 x4, Value.int IntKind.i64 x5, Value.int IntKind.i64 x6] ∧
 isC m3 x = true ∧
 ∃ (x7 : Int),
 rd m3 x 0 = some (Value.int IntKind.i64 x7) ∧
 Wc Try.prog fSpfother [Value.agg { toList := [Value.int IntKind.i64 x4, Value.int IntKind.i64 x5, Value.int IntKind.i64 x6] }, Value.int IntKind.i64 x7] m3 (n + 1) fun (v8 : Value) (m9 : Mem) (k10 : Nat) =>
 ∃ (x11 : Int),
 v8 = Value.int IntKind.i64 x11 ∧
 Later
 (bif decide (x11 ≥ 0) then
 ∃ (p12 : Option Addr),
 ∃ (k13 : Nat),
 ∃ (k14 : Nat),
 rd m9 out' 0 = some (Value.slice p12 k13 k14) ∧
 elimA p12 False fun (k15 k16 : Nat) (p17 : Option Nat) =>
 (0 ≤ x11 ∧ x11 < (↑k13 : Int) ∧ liveAt m9 k15 = true ∧ (p17 ≠ none → 0 < k14)) ∧
 ∃ (x18 : Int),
 rd m9 k15 (offOf k16 p17 + x11.toNat * 1) = some (Value.int IntKind.i64 x18) ∧
 bif decide (x18 < 0) then ∃ (p19 : Option Addr), rd m9 q 0 = some (Value.pointer p19) ∧ isC m9 x = true ∧ ∃ (x20 : Int), rd m9 x 1 = some (Value.int IntKind.i64 x20) ∧ isC m9 n = true ∧ ∃ (x21 : Int), rd m9 n 2 = some (Value.int IntKind.i64 x21) ∧ Wc Try.prog fContainerheapPush [Value.iface tPspfqueue (Value.pointer p19), Value.iface tSpffar (Value.agg { toList := [Value.int IntKind.i64 x11, Value.int IntKind.i64 (IntKind.i64.wrap (x20 + x21))] })] m9 k10 fun (v22 : Value) (m23 : Mem) (k24 : Nat) => v22 = Value.tuple { toList := [] } ∧ Later (∃ (y25 : AObj), Tr.get m23 Y = some y25 ∧ isLp y25 = true ∧ memLet (Tr.set m23 Y (lpSet y25 LoopState.ready none)) fun (m26 : Mem) => Q (Value.bool true) m26 k24)
 else ∃ (y27 : AObj), Tr.get m9 Y = some y27 ∧ isLp y27 = true ∧ memLet (Tr.set m9 Y (lpSet y27 LoopState.ready none)) fun (m28 : Mem) => Q (Value.bool true) m28 k10
 else ∃ (y29 : AObj), Tr.get m9 Y = some y29 ∧ isLp y29 = true ∧ memLet (Tr.set m9 Y (lpSet y29 LoopState.ready none)) fun (m30 : Mem) => Q (Value.bool true) m30 k10)) := by kernel_rfl

/- 29 leafmesh/spf.Next -/
theorem xSpfNext (m : Mem) (n : Nat) (Q : Value → Mem → Nat → Prop) (nodes : Int) (links_a : Option Addr) (links_l : Nat) (links_c : Nat) (up_a : Option Addr) (up_l : Nat) (up_c : Nat) (from' : Int) (to : Int) :
 Xc Try.prog xcfg 400 fSpfNext [Value.int IntKind.i64 nodes, Value.slice links_a links_l links_c, Value.slice up_a up_l up_c, Value.int IntKind.i64 from', Value.int IntKind.i64 to] m n Q =
 (memLet (Tr.set m n (AObj.cells none tInt 1 [Value.int IntKind.i64 from'])) fun (m0 : Mem) =>
 ∃ (x1 : Int),
 rd m0 n 0 = some (Value.int IntKind.i64 x1) ∧
 memLet (Tr.set m0 (n + 1) (AObj.cells none tInt 1 [Value.int IntKind.i64 x1, Value.int IntKind.i64 to])) fun (m2 : Mem) =>
 Wc Try.prog fSpfvalid [Value.int IntKind.i64 nodes, Value.slice links_a links_l links_c, Value.slice up_a up_l up_c, Value.slice (some { block := n + 1, off := 0 }) 2 2] m2 (n + 1 + 1) fun (v3 : Value) (m4 : Mem) (k5 : Nat) =>
 ∃ (b6 : Bool),
 v3 = Value.bool b6 ∧
 Later
 (bif !b6 then Q (Value.slice none 0 0) m4 k5
 else
 Wc Try.prog fSpfDist [Value.int IntKind.i64 nodes, Value.slice links_a links_l links_c, Value.slice up_a up_l up_c, Value.int IntKind.i64 to] m4 k5 fun (v7 : Value) (m8 : Mem) (k9 : Nat) =>
 ∃ (p10 : Option Addr),
 ∃ (k11 : Nat),
 ∃ (k12 : Nat),
 v7 = Value.slice p10 k11 k12 ∧
 Later
 (memLet (Tr.set m8 k9 (AObj.cells none tLint 1 [Value.slice none 0 0])) fun (m13 : Mem) =>
 ∃ (m14 : Mem),
 storeCs m13 k9 0 [Value.slice p10 k11 k12] = some m14 ∧
 memLet (Tr.set m14 (k9 + 1) (AObj.cells none tLint 1 [Value.slice none 0 0])) fun (m15 : Mem) =>
 Wc Try.prog fSpffilterapiLink [Value.slice links_a links_l links_c, Value.slice up_a up_l up_c] m15 (k9 + 1 + 1) fun (v16 : Value) (m17 : Mem) (k18 : Nat) =>
 ∃ (y19 : FuncId),
 ∃ (l20 : List Value),
 ∃ (l21 : List Value),
 v16 = Value.func (Fn.func y19) { toList := l20 } { toList := l21 } ∧
 Later
 (memLet ((Tr.set m17 k18 (AObj.deferred (some []))).set (k18 + 1) (loopO fSpfNext 65 [(8, Value.pointer (some { block := n, off := 0 })), (11, Value.pointer (some { block := k9, off := 0 })), (12, Value.pointer (some { block := k9 + 1, off := 0 })), (31, Value.func (Fn.func y19) { toList := l20 } { toList := l21 })] LoopState.ready none (pt Try.prog fSpfNext [1, 1, 1, 1, 0, 1, 0]) k18)) fun (m22 : Mem) =>
 Wc Try.prog y19 (l20 ++ [Value.func (Fn.yield (k18 + 1)) { toList := [] } { toList := [] }] ++ l21) m22 (k18 + 2) fun (v23 : Value) (m24 : Mem) (k25 : Nat) =>
 ∃ (y26 : LoopState),
 ∃ (p27 : Option Code),
 Tr.get m24 (k18 + 1) = some (loopO fSpfNext 65 [(8, Value.pointer (some { block := n, off := 0 })), (11, Value.pointer (some { block := k9, off := 0 })), (12, Value.pointer (some { block := k9 + 1, off := 0 })), (31, Value.func (Fn.func y19) { toList := l20 } { toList := l21 })] y26 p27 (pt Try.prog fSpfNext [1, 1, 1, 1, 0, 1, 0]) k18) ∧
 isBusy y26 = false ∧ Later (memLet (Tr.set m24 (k18 + 1) (loopO fSpfNext 65 [(8, Value.pointer (some { block := n, off := 0 })), (11, Value.pointer (some { block := k9, off := 0 })), (12, Value.pointer (some { block := k9 + 1, off := 0 })), (31, Value.func (Fn.func y19) { toList := l20 } { toList := l21 })] LoopState.exhausted p27 (pt Try.prog fSpfNext [1, 1, 1, 1, 0, 1, 0]) k18)) fun (m28 : Mem) => elimJ p27 (∃ (p29 : Option Addr), ∃ (k30 : Nat), ∃ (k31 : Nat), rd m28 (k9 + 1) 0 = some (Value.slice p29 k30 k31) ∧ Tr.get m28 k18 = some (AObj.deferred (some [])) ∧ memLet (Tr.set m28 k18 (AObj.deferred none)) fun (m32 : Mem) => Q (Value.slice p29 k30 k31) m32 k25) (Tr.get m28 k18 = some (AObj.deferred (some [])) ∧ False) fun (y34 : Code) => False))))) := by kernel_rfl

theorem xSpfNextr0 (m : Mem) (n : Nat) (Q : Value → Mem → Nat → Prop) (from'_1 : Nat) (d : Nat) (out' : Nat) (t31 : Value) (Y : Nat) (t32v : Int) (t33v0 : Int) (t33v1 : Int) (t33v2 : Int) :
 xF (evX Try.prog xcfg 400) (roundF fSpfNext 65 [(8, Value.pointer (some { block := from'_1, off := 0 })), (11, Value.pointer (some { block := d, off := 0 })), (12, Value.pointer (some { block := out', off := 0 })), (31, t31)] (pt Try.prog fSpfNext [1, 1, 1, 1, 0, 1, 0]) [Value.int IntKind.i64 t32v, Value.agg { toList := [Value.int IntKind.i64 t33v0, Value.int IntKind.i64 t33v1, Value.int IntKind.i64 t33v2] }] Y) m n Q =
 (memLet (Tr.set m n (AObj.cells none tApiLink 3 [Value.int IntKind.i64 0, Value.int IntKind.i64 0, Value.int IntKind.i64 0])) fun (m0 : Mem) =>
 ∃ (m1 : Mem),
 storeCs m0 n 0 [Value.int IntKind.i64 t33v0, Value.int IntKind.i64 t33v1, Value.int IntKind.i64 t33v2] = some m1 ∧
 ∃ (y2 : AObj),
 Tr.get m1 Y = some y2 ∧
 lpReady y2 = true ∧
 memLet (Tr.set m1 Y (lpBusy y2)) fun (m3 : Mem) =>
 ∃ (x4 : Int),
 ∃ (x5 : Int),
 ∃ (x6 : Int),
 rds m3 n 0 3 = some [Value.int IntKind.i64 x4, Value.int IntKind.i64 x5, Value.int IntKind.i64 x6] ∧
 ∃ (x7 : Int),
 rd m3 from'_1 0 = some (Value.int IntKind.i64 x7) ∧
 Wc Try.prog fSpfother [Value.agg { toList := [Value.int IntKind.i64 x4, Value.int IntKind.i64 x5, Value.int IntKind.i64 x6] }, Value.int IntKind.i64 x7] m3 (n + 1) fun (v8 : Value) (m9 : Mem) (k10 : Nat) =>
 ∃ (x11 : Int),
 v8 = Value.int IntKind.i64 x11 ∧
 Later
 (bif decide (x11 ≥ 0) then
 ∃ (p12 : Option Addr),
 ∃ (k13 : Nat),
 ∃ (k14 : Nat),
 rd m9 d 0 = some (Value.slice p12 k13 k14) ∧
 elimA p12 False fun (k15 k16 : Nat) (p17 : Option Nat) =>
 (0 ≤ x11 ∧ x11 < (↑k13 : Int) ∧ liveAt m9 k15 = true ∧ (p17 ≠ none → 0 < k14)) ∧
 ∃ (x18 : Int),
 rd m9 k15 (offOf k16 p17 + x11.toNat * 1) = some (Value.int IntKind.i64 x18) ∧
 bif decide (x18 ≥ 0) then
 ∃ (p19 : Option Addr),
 ∃ (k20 : Nat),
 ∃ (k21 : Nat),
 rd m9 d 0 = some (Value.slice p19 k20 k21) ∧
 elimA p19 False fun (k22 k23 : Nat) (p24 : Option Nat) =>
 (0 ≤ x11 ∧ x11 < (↑k20 : Int) ∧ liveAt m9 k22 = true ∧ (p24 ≠ none → 0 < k21)) ∧
 ∃ (x25 : Int),
 rd m9 k22 (offOf k23 p24 + x11.toNat * 1) = some (Value.int IntKind.i64 x25) ∧
 isC m9 n = true ∧
 ∃ (x26 : Int),
 rd m9 n 2 = some (Value.int IntKind.i64 x26) ∧
 ∃ (p27 : Option Addr),
 ∃ (k28 : Nat),
 ∃ (k29 : Nat),
 rd m9 d 0 = some (Value.slice p27 k28 k29) ∧
 ∃ (x30 : Int),
 rd m9 from'_1 0 = some (Value.int IntKind.i64 x30) ∧
 elimA p27 False fun (k31 k32 : Nat) (p33 : Option Nat) =>
 (0 ≤ x30 ∧ x30 < (↑k28 : Int) ∧ liveAt m9 k31 = true ∧ (p33 ≠ none → 0 < k29)) ∧
 ∃ (x34 : Int),
 rd m9 k31 (offOf k32 p33 + x30.toNat * 1) = some (Value.int IntKind.i64 x34) ∧
 bif IntKind.i64.wrap (x25 + x26) == x34 then ∃ (p35 : Option Addr), ∃ (k36 : Nat), ∃ (k37 : Nat), rd m9 out' 0 = some (Value.slice p35 k36 k37) ∧ memLet (Tr.set m9 (k10 + 23) (AObj.cells none tInt 1 [Value.int IntKind.i64 t32v])) fun (m38 : Mem) => ∃ (p39 : Option Addr), ∃ (k40 : Nat), ∃ (k41 : Nat), ∃ (m42 : Mem), ∃ (k43 : Nat), appendA Try.prog m38 (k10 + 23 + 1) tLint tLint (Value.slice p35 k36 k37) (Value.slice (some { block := k10 + 23, off := 0 }) 1 1) = Eff.val (Value.slice p39 k40 k41) m42 k43 ∧ ∃ (m44 : Mem), storeCs m42 out' 0 [Value.slice p39 k40 k41] = some m44 ∧ ∃ (y45 : AObj), Tr.get m44 Y = some y45 ∧ isLp y45 = true ∧ memLet (Tr.set m44 Y (lpSet y45 LoopState.ready none)) fun (m46 : Mem) => Q (Value.bool true) m46 k43
 else ∃ (y47 : AObj), Tr.get m9 Y = some y47 ∧ isLp y47 = true ∧ memLet (Tr.set m9 Y (lpSet y47 LoopState.ready none)) fun (m48 : Mem) => Q (Value.bool true) m48 (k10 + 23)
 else ∃ (y49 : AObj), Tr.get m9 Y = some y49 ∧ isLp y49 = true ∧ memLet (Tr.set m9 Y (lpSet y49 LoopState.ready none)) fun (m50 : Mem) => Q (Value.bool true) m50 (k10 + 23)
 else ∃ (y51 : AObj), Tr.get m9 Y = some y51 ∧ isLp y51 = true ∧ memLet (Tr.set m9 Y (lpSet y51 LoopState.ready none)) fun (m52 : Mem) => Q (Value.bool true) m52 (k10 + 23))) := by kernel_rfl

/- 30 leafmesh/leafmeshkit.Has[leafmesh/api.IP] -/
theorem xKitHasapiIP (m : Mem) (n : Nat) (Q : Value → Mem → Nat → Prop) (l_a : Option Addr) (l_l : Nat) (l_c : Nat) (x : Int) :
 Xc Try.prog xcfg 400 fKitHasapiIP [Value.slice l_a l_l l_c, Value.int IntKind.u32 x] m n Q =
 (W Try.prog { fn := fKitHasapiIP, nt := 18, slots := [(0, Value.slice l_a l_l l_c), (1, Value.int IntKind.u32 x), (5, Value.int IntKind.i64 0)], todo := pt Try.prog fKitHasapiIP [1, 0, 1, 0, 0] } m n Q) := by kernel_rfl

theorem xKitHasapiIPk0 (m : Mem) (n : Nat) (Q : Value → Mem → Nat → Prop) (l_a : Option Addr) (l_l : Nat) (l_c : Nat) (x : Int) (i : Int) :
 xF (evX Try.prog xcfg 400) { fn := fKitHasapiIP, nt := 18, slots := [(0, Value.slice l_a l_l l_c), (1, Value.int IntKind.u32 x), (5, Value.int IntKind.i64 i)], todo := pt Try.prog fKitHasapiIP [1, 0, 1, 0, 0] } m n Q =
 (bif decide (i < (↑l_l : Int)) then elimA l_a False fun (k0 k1 : Nat) (p2 : Option Nat) => (0 ≤ i ∧ i < (↑l_l : Int) ∧ liveAt m k0 = true ∧ (p2 ≠ none → 0 < l_c)) ∧ ∃ (x3 : Int), rd m k0 (offOf k1 p2 + i.toNat * 1) = some (Value.int IntKind.u32 x3) ∧ bif x3 == x then Q (Value.bool true) m n else W Try.prog { fn := fKitHasapiIP, nt := 18, slots := [(0, Value.slice l_a l_l l_c), (1, Value.int IntKind.u32 x), (5, Value.int IntKind.i64 (IntKind.i64.wrap (i + 1)))], todo := pt Try.prog fKitHasapiIP [1, 0, 1, 0, 0] } m n Q else Q (Value.bool false) m n) := by kernel_rfl

/- 31 (*leafmesh/fib.Fib).Forward -/
theorem xFibFibForward (m : Mem) (n : Nat) (Q : Value → Mem → Nat → Prop) (f : Nat) (p0 : Int) (p1 : Int) (p2 : Int) (p3 : Int) (p4 : Int) (p5 : Int) (p6 : Int) (p7 : Int) (p8 : Int) (p9 : Int) (p10 : Int) (p11 : Int) (p12 : Int) (p13 : Int) (p14 : Int) (p15 : Int) (p16 : Int) (p17 : Int) (p18 : Int) (p19 : Int) (p20 : Int) :
 Xc Try.prog xcfg 400 fFibFibForward [Value.pointer (some { block := f, off := 0 }), Value.agg { toList := [Value.int IntKind.u32 p0, Value.int IntKind.u32 p1, Value.int IntKind.i64 p2, Value.int IntKind.i64 p3, Value.int IntKind.u32 p4, Value.int IntKind.u32 p5, Value.int IntKind.u64 p6, Value.int IntKind.u64 p7, Value.int IntKind.i64 p8, Value.int IntKind.i64 p9, Value.int IntKind.u64 p10, Value.int IntKind.u32 p11, Value.int IntKind.u64 p12, Value.int IntKind.u32 p13, Value.int IntKind.u32 p14, Value.int IntKind.u32 p15, Value.int IntKind.i64 p16, Value.int IntKind.i64 p17, Value.int IntKind.i64 p18, Value.int IntKind.i64 p19, Value.int IntKind.u64 p20] }] m n Q =
 (memLet (Tr.set m n (AObj.cells none tPfibFib 1 [Value.pointer (some { block := f, off := 0 })])) fun (m0 : Mem) =>
 memLet (Tr.set m0 (n + 1) (AObj.cells none tApiPacket 21 [Value.int IntKind.u32 p0, Value.int IntKind.u32 p1, Value.int IntKind.i64 p2, Value.int IntKind.i64 p3, Value.int IntKind.u32 p4, Value.int IntKind.u32 p5, Value.int IntKind.u64 p6, Value.int IntKind.u64 p7, Value.int IntKind.i64 p8, Value.int IntKind.i64 p9, Value.int IntKind.u64 p10, Value.int IntKind.u32 p11, Value.int IntKind.u64 p12, Value.int IntKind.u32 p13, Value.int IntKind.u32 p14, Value.int IntKind.u32 p15, Value.int IntKind.i64 p16, Value.int IntKind.i64 p17, Value.int IntKind.i64 p18, Value.int IntKind.i64 p19, Value.int IntKind.u64 p20])) fun (m1 : Mem) =>
 memLet (Tr.set m1 (n + 1 + 1) (AObj.cells none tApiPacket 21 [Value.int IntKind.u32 0, Value.int IntKind.u32 0, Value.int IntKind.i64 0, Value.int IntKind.i64 0, Value.int IntKind.u32 0, Value.int IntKind.u32 0, Value.int IntKind.u64 0, Value.int IntKind.u64 0, Value.int IntKind.i64 0, Value.int IntKind.i64 0, Value.int IntKind.u64 0, Value.int IntKind.u32 0, Value.int IntKind.u64 0, Value.int IntKind.u32 0, Value.int IntKind.u32 0, Value.int IntKind.u32 0, Value.int IntKind.i64 0, Value.int IntKind.i64 0, Value.int IntKind.i64 0, Value.int IntKind.i64 0, Value.int IntKind.u64 0])) fun (m2 : Mem) =>
 ∃ (p3 : Option Addr),
 rd m2 n 0 = some (Value.pointer p3) ∧
 Wc Try.prog fFibFibvalid [Value.pointer p3] m2 (n + 1 + 1 + 1) fun (v4 : Value) (m5 : Mem) (k6 : Nat) =>
 ∃ (b7 : Bool),
 v4 = Value.bool b7 ∧
 Later
 (bif !b7 then
 ∃ (m8 : Mem),
 storeCs m5 (n + 1 + 1) 0 [Value.int IntKind.u32 0, Value.int IntKind.u32 0, Value.int IntKind.i64 0, Value.int IntKind.i64 0, Value.int IntKind.u32 0, Value.int IntKind.u32 0, Value.int IntKind.u64 0, Value.int IntKind.u64 0, Value.int IntKind.i64 0, Value.int IntKind.i64 0, Value.int IntKind.u64 0, Value.int IntKind.u32 0, Value.int IntKind.u64 0, Value.int IntKind.u32 0, Value.int IntKind.u32 0, Value.int IntKind.u32 0, Value.int IntKind.i64 0, Value.int IntKind.i64 0, Value.int IntKind.i64 0, Value.int IntKind.i64 0, Value.int IntKind.u64 0] = some m8 ∧
 ∃ (x9 : Int),
 ∃ (x10 : Int),
 ∃ (x11 : Int),
 ∃ (x12 : Int),
 ∃ (x13 : Int),
 ∃ (x14 : Int),
 ∃ (x15 : Int),
 ∃ (x16 : Int),
 ∃ (x17 : Int),
 ∃ (x18 : Int),
 ∃ (x19 : Int),
 ∃ (x20 : Int),
 ∃ (x21 : Int),
 ∃ (x22 : Int),
 ∃ (x23 : Int),
 ∃ (x24 : Int),
 ∃ (x25 : Int),
 ∃ (x26 : Int),
 ∃ (x27 : Int),
 ∃ (x28 : Int),
 ∃ (x29 : Int),
 rds m8 (n + 1 + 1) 0 21 = some [Value.int IntKind.u32 x9, Value.int IntKind.u32 x10, Value.int IntKind.i64 x11, Value.int IntKind.i64 x12, Value.int IntKind.u32 x13, Value.int IntKind.u32 x14, Value.int IntKind.u64 x15, Value.int IntKind.u64 x16, Value.int IntKind.i64 x17, Value.int IntKind.i64 x18, Value.int IntKind.u64 x19, Value.int IntKind.u32 x20, Value.int IntKind.u64 x21, Value.int IntKind.u32 x22, Value.int IntKind.u32 x23, Value.int IntKind.u32 x24, Value.int IntKind.i64 x25, Value.int IntKind.i64 x26, Value.int IntKind.i64 x27, Value.int IntKind.i64 x28, Value.int IntKind.u64 x29] ∧
 Q (Value.tuple { toList := [Value.int IntKind.i64 0, Value.agg { toList := [Value.int IntKind.u32 x9, Value.int IntKind.u32 x10, Value.int IntKind.i64 x11, Value.int IntKind.i64 x12, Value.int IntKind.u32 x13, Value.int IntKind.u32 x14, Value.int IntKind.u64 x15, Value.int IntKind.u64 x16, Value.int IntKind.i64 x17, Value.int IntKind.i64 x18, Value.int IntKind.u64 x19, Value.int IntKind.u32 x20, Value.int IntKind.u64 x21, Value.int IntKind.u32 x22, Value.int IntKind.u32 x23, Value.int IntKind.u32 x24, Value.int IntKind.i64 x25, Value.int IntKind.i64 x26, Value.int IntKind.i64 x27, Value.int IntKind.i64 x28, Value.int IntKind.u64 x29] }, Value.int IntKind.i64 1] }) m8 k6
 else
 isC m5 (n + 1) = true ∧
 ∃ (x30 : Int),
 rd m5 (n + 1) 1 = some (Value.int IntKind.u32 x30) ∧
 Wc Try.prog fAddrNode [Value.int IntKind.u32 x30] m5 k6 fun (v31 : Value) (m32 : Mem) (k33 : Nat) =>
 ∃ (x34 : Int),
 ∃ (b35 : Bool),
 v31 = Value.tuple { toList := [Value.int IntKind.i64 x34, Value.bool b35] } ∧
 Later
 (memLet (Tr.set m32 k33 (AObj.cells none tInt 1 [Value.int IntKind.i64 0])) fun (m36 : Mem) =>
 memLet (Tr.set m36 (k33 + 1) (AObj.cells none tBool 1 [Value.bool false])) fun (m37 : Mem) =>
 ∃ (m38 : Mem),
 storeCs m37 k33 0 [Value.int IntKind.i64 x34] = some m38 ∧
 ∃ (m39 : Mem),
 storeCs m38 (k33 + 1) 0 [Value.bool b35] = some m39 ∧
 memLet (Tr.set m39 (k33 + 1 + 1) (AObj.cells none tFuncapiErrno 1 [Value.func (Fn.func fFibFibForward1) { toList := [] } { toList := [Value.pointer (some { block := k33 + 1, off := 0 }), Value.pointer (some { block := k33, off := 0 }), Value.pointer (some { block := n, off := 0 })] }, Value.func (Fn.func fFibFibForward2) { toList := [] } { toList := [Value.pointer (some { block := n + 1, off := 0 })] }, Value.func (Fn.func fFibFibForward3) { toList := [] } { toList := [Value.pointer (some { block := n, off := 0 }), Value.pointer (some { block := n + 1, off := 0 })] }])) fun (m40 : Mem) =>
 W Try.prog { fn := fFibFibForward, nt := 61, slots := [(2, Value.pointer (some { block := n, off := 0 })), (3, Value.pointer (some { block := n + 1, off := 0 })), (5, Value.pointer (some { block := n + 1 + 1, off := 0 })), (7, Value.pointer (some { block := k33, off := 0 })), (27, Value.slice (some { block := k33 + 1 + 1, off := 0 }) 3 3), (28, Value.int IntKind.i64 3), (29, Value.int IntKind.i64 0)], todo := pt Try.prog fFibFibForward [1, 1, 1, 0, 1, 0, 0] } m40 (k33 + 1 + 1 + 1) Q))) := by kernel_rfl

theorem xFibFibForwardk0 (m : Mem) (n : Nat) (Q : Value → Mem → Nat → Prop) (f_1 : Nat) (p : Nat) (t5 : Nat) (node : Nat) (t27_a : Option Addr) (t27_l : Nat) (t27_c : Nat) (t29 : Int) :
 xF (evX Try.prog xcfg 400) { fn := fFibFibForward, nt := 61, slots := [(2, Value.pointer (some { block := f_1, off := 0 })), (3, Value.pointer (some { block := p, off := 0 })), (5, Value.pointer (some { block := t5, off := 0 })), (7, Value.pointer (some { block := node, off := 0 })), (27, Value.slice t27_a t27_l t27_c), (28, Value.int IntKind.i64 3), (29, Value.int IntKind.i64 t29)], todo := pt Try.prog fFibFibForward [1, 1, 1, 0, 1, 0, 0] } m n Q =
 (bif decide (t29 < 3) then
 elimA t27_a False fun (k0 k1 : Nat) (p2 : Option Nat) =>
 (0 ≤ t29 ∧ t29 < (↑t27_l : Int) ∧ liveAt m k0 = true ∧ (p2 ≠ none → 0 < t27_c)) ∧
 ∃ (y3 : FuncId),
 ∃ (l4 : List Value),
 ∃ (l5 : List Value),
 rd m k0 (offOf k1 p2 + t29.toNat * 1) = some (Value.func (Fn.func y3) { toList := l4 } { toList := l5 }) ∧
 Wc Try.prog y3 (l4 ++ [] ++ l5) m n fun (v6 : Value) (m7 : Mem) (k8 : Nat) =>
 ∃ (x9 : Int),
 v6 = Value.int IntKind.i64 x9 ∧
 Later
 (bif x9 != 0 then
 ∃ (m10 : Mem),
 storeCs m7 t5 0 [Value.int IntKind.u32 0, Value.int IntKind.u32 0, Value.int IntKind.i64 0, Value.int IntKind.i64 0, Value.int IntKind.u32 0, Value.int IntKind.u32 0, Value.int IntKind.u64 0, Value.int IntKind.u64 0, Value.int IntKind.i64 0, Value.int IntKind.i64 0, Value.int IntKind.u64 0, Value.int IntKind.u32 0, Value.int IntKind.u64 0, Value.int IntKind.u32 0, Value.int IntKind.u32 0, Value.int IntKind.u32 0, Value.int IntKind.i64 0, Value.int IntKind.i64 0, Value.int IntKind.i64 0, Value.int IntKind.i64 0, Value.int IntKind.u64 0] = some m10 ∧
 ∃ (x11 : Int),
 ∃ (x12 : Int),
 ∃ (x13 : Int),
 ∃ (x14 : Int),
 ∃ (x15 : Int),
 ∃ (x16 : Int),
 ∃ (x17 : Int),
 ∃ (x18 : Int),
 ∃ (x19 : Int),
 ∃ (x20 : Int),
 ∃ (x21 : Int),
 ∃ (x22 : Int),
 ∃ (x23 : Int),
 ∃ (x24 : Int),
 ∃ (x25 : Int),
 ∃ (x26 : Int),
 ∃ (x27 : Int),
 ∃ (x28 : Int),
 ∃ (x29 : Int),
 ∃ (x30 : Int),
 ∃ (x31 : Int),
 rds m10 t5 0 21 = some [Value.int IntKind.u32 x11, Value.int IntKind.u32 x12, Value.int IntKind.i64 x13, Value.int IntKind.i64 x14, Value.int IntKind.u32 x15, Value.int IntKind.u32 x16, Value.int IntKind.u64 x17, Value.int IntKind.u64 x18, Value.int IntKind.i64 x19, Value.int IntKind.i64 x20, Value.int IntKind.u64 x21, Value.int IntKind.u32 x22, Value.int IntKind.u64 x23, Value.int IntKind.u32 x24, Value.int IntKind.u32 x25, Value.int IntKind.u32 x26, Value.int IntKind.i64 x27, Value.int IntKind.i64 x28, Value.int IntKind.i64 x29, Value.int IntKind.i64 x30, Value.int IntKind.u64 x31] ∧
 Q (Value.tuple { toList := [Value.int IntKind.i64 0, Value.agg { toList := [Value.int IntKind.u32 x11, Value.int IntKind.u32 x12, Value.int IntKind.i64 x13, Value.int IntKind.i64 x14, Value.int IntKind.u32 x15, Value.int IntKind.u32 x16, Value.int IntKind.u64 x17, Value.int IntKind.u64 x18, Value.int IntKind.i64 x19, Value.int IntKind.i64 x20, Value.int IntKind.u64 x21, Value.int IntKind.u32 x22, Value.int IntKind.u64 x23, Value.int IntKind.u32 x24, Value.int IntKind.u32 x25, Value.int IntKind.u32 x26, Value.int IntKind.i64 x27, Value.int IntKind.i64 x28, Value.int IntKind.i64 x29, Value.int IntKind.i64 x30, Value.int IntKind.u64 x31] }, Value.int IntKind.i64 x9] }) m10 k8
 else W Try.prog { fn := fFibFibForward, nt := 61, slots := [(2, Value.pointer (some { block := f_1, off := 0 })), (3, Value.pointer (some { block := p, off := 0 })), (5, Value.pointer (some { block := t5, off := 0 })), (7, Value.pointer (some { block := node, off := 0 })), (27, Value.slice t27_a t27_l t27_c), (28, Value.int IntKind.i64 3), (29, Value.int IntKind.i64 (IntKind.i64.wrap (t29 + 1)))], todo := pt Try.prog fFibFibForward [1, 1, 1, 0, 1, 0, 0] } m7 k8 Q)
 else
 ∃ (p32 : Option Addr),
 rd m f_1 0 = some (Value.pointer p32) ∧
 elimP p32 False fun (k33 k34 : Nat) =>
 isC m k33 = true ∧
 ∃ (p35 : Option Addr),
 rd m k33 (k34 + 0) = some (Value.pointer p35) ∧
 ∃ (x36 : Int),
 rd m node 0 = some (Value.int IntKind.i64 x36) ∧
 ∃ (p37 : Option Addr),
 ∃ (m38 : Mem),
 ∃ (k39 : Nat),
 (Wc Try.prog fFibstatewheel [Value.pointer p35, Value.int IntKind.i64 x36] m (n + 14) fun (v40 : Value) (m41 : Mem) (k42 : Nat) => v40 = Value.pointer p37 ∧ m41 = m38 ∧ k42 = k39) ∧
 Later
 (∃ (x43 : Int),
 ∃ (x44 : Int),
 ∃ (x45 : Int),
 ∃ (x46 : Int),
 ∃ (x47 : Int),
 ∃ (x48 : Int),
 ∃ (x49 : Int),
 ∃ (x50 : Int),
 ∃ (x51 : Int),
 ∃ (x52 : Int),
 ∃ (x53 : Int),
 ∃ (x54 : Int),
 ∃ (x55 : Int),
 ∃ (x56 : Int),
 ∃ (x57 : Int),
 ∃ (x58 : Int),
 ∃ (x59 : Int),
 ∃ (x60 : Int),
 ∃ (x61 : Int),
 ∃ (x62 : Int),
 ∃ (x63 : Int),
 rds m38 p 0 21 = some [Value.int IntKind.u32 x43, Value.int IntKind.u32 x44, Value.int IntKind.i64 x45, Value.int IntKind.i64 x46, Value.int IntKind.u32 x47, Value.int IntKind.u32 x48, Value.int IntKind.u64 x49, Value.int IntKind.u64 x50, Value.int IntKind.i64 x51, Value.int IntKind.i64 x52, Value.int IntKind.u64 x53, Value.int IntKind.u32 x54, Value.int IntKind.u64 x55, Value.int IntKind.u32 x56, Value.int IntKind.u32 x57, Value.int IntKind.u32 x58, Value.int IntKind.i64 x59, Value.int IntKind.i64 x60, Value.int IntKind.i64 x61, Value.int IntKind.i64 x62, Value.int IntKind.u64 x63] ∧
 ∃ (x64 : Int),
 ∃ (m65 : Mem),
 ∃ (k66 : Nat),
 (Wc Try.prog fSpreadHash [Value.agg { toList := [Value.int IntKind.u32 x43, Value.int IntKind.u32 x44, Value.int IntKind.i64 x45, Value.int IntKind.i64 x46, Value.int IntKind.u32 x47, Value.int IntKind.u32 x48, Value.int IntKind.u64 x49, Value.int IntKind.u64 x50, Value.int IntKind.i64 x51, Value.int IntKind.i64 x52, Value.int IntKind.u64 x53, Value.int IntKind.u32 x54, Value.int IntKind.u64 x55, Value.int IntKind.u32 x56, Value.int IntKind.u32 x57, Value.int IntKind.u32 x58, Value.int IntKind.i64 x59, Value.int IntKind.i64 x60, Value.int IntKind.i64 x61, Value.int IntKind.i64 x62, Value.int IntKind.u64 x63] }] m38 k39 fun (v67 : Value) (m68 : Mem) (k69 : Nat) => v67 = Value.int IntKind.u64 x64 ∧ m68 = m65 ∧ k69 = k66) ∧
 Later
 (∃ (x70 : Int),
 ∃ (b71 : Bool),
 ∃ (m72 : Mem),
 ∃ (k73 : Nat),
 (Wc Try.prog fSpreadWheelPick [Value.pointer p37, Value.int IntKind.u64 x64] m65 k66 fun (v74 : Value) (m75 : Mem) (k76 : Nat) => v74 = Value.tuple { toList := [Value.int IntKind.i64 x70, Value.bool b71] } ∧ m75 = m72 ∧ k76 = k73) ∧
 Later
 ((∃ (x77 : Int),
 ∃ (x78 : Int),
 ∃ (x79 : Int),
 ∃ (x80 : Int),
 ∃ (x81 : Int),
 ∃ (x82 : Int),
 ∃ (x83 : Int),
 ∃ (x84 : Int),
 ∃ (x85 : Int),
 ∃ (x86 : Int),
 ∃ (x87 : Int),
 ∃ (x88 : Int),
 ∃ (x89 : Int),
 ∃ (x90 : Int),
 ∃ (x91 : Int),
 ∃ (x92 : Int),
 ∃ (x93 : Int),
 ∃ (x94 : Int),
 ∃ (x95 : Int),
 ∃ (x96 : Int),
 ∃ (x97 : Int),
 rds m p 0 21 = some [Value.int IntKind.u32 x77, Value.int IntKind.u32 x78, Value.int IntKind.i64 x79, Value.int IntKind.i64 x80, Value.int IntKind.u32 x81, Value.int IntKind.u32 x82, Value.int IntKind.u64 x83, Value.int IntKind.u64 x84, Value.int IntKind.i64 x85, Value.int IntKind.i64 x86, Value.int IntKind.u64 x87, Value.int IntKind.u32 x88, Value.int IntKind.u64 x89, Value.int IntKind.u32 x90, Value.int IntKind.u32 x91, Value.int IntKind.u32 x92, Value.int IntKind.i64 x93, Value.int IntKind.i64 x94, Value.int IntKind.i64 x95, Value.int IntKind.i64 x96, Value.int IntKind.u64 x97] ∧
 Value.agg { toList := [Value.int IntKind.u32 x77, Value.int IntKind.u32 x78, Value.int IntKind.i64 x79, Value.int IntKind.i64 x80, Value.int IntKind.u32 x81, Value.int IntKind.u32 x82, Value.int IntKind.u64 x83, Value.int IntKind.u64 x84, Value.int IntKind.i64 x85, Value.int IntKind.i64 x86, Value.int IntKind.u64 x87, Value.int IntKind.u32 x88, Value.int IntKind.u64 x89, Value.int IntKind.u32 x90, Value.int IntKind.u32 x91, Value.int IntKind.u32 x92, Value.int IntKind.i64 x93, Value.int IntKind.i64 x94, Value.int IntKind.i64 x95, Value.int IntKind.i64 x96, Value.int IntKind.u64 x97] } =
 Value.agg { toList := [Value.int IntKind.u32 x43, Value.int IntKind.u32 x44, Value.int IntKind.i64 x45, Value.int IntKind.i64 x46, Value.int IntKind.u32 x47, Value.int IntKind.u32 x48, Value.int IntKind.u64 x49, Value.int IntKind.u64 x50, Value.int IntKind.i64 x51, Value.int IntKind.i64 x52, Value.int IntKind.u64 x53, Value.int IntKind.u32 x54, Value.int IntKind.u64 x55, Value.int IntKind.u32 x56, Value.int IntKind.u32 x57, Value.int IntKind.u32 x58, Value.int IntKind.i64 x59, Value.int IntKind.i64 x60, Value.int IntKind.i64 x61, Value.int IntKind.i64 x62, Value.int IntKind.u64 x63] }) ∧
 n + 14 ≤ k39 ∧
 n + 14 ≤ k66 ∧
 n + 14 ≤ k73 ∧
 bif !b71 then
 ∃ (m98 : Mem),
 storeCs m72 t5 0 [Value.int IntKind.u32 0, Value.int IntKind.u32 0, Value.int IntKind.i64 0, Value.int IntKind.i64 0, Value.int IntKind.u32 0, Value.int IntKind.u32 0, Value.int IntKind.u64 0, Value.int IntKind.u64 0, Value.int IntKind.i64 0, Value.int IntKind.i64 0, Value.int IntKind.u64 0, Value.int IntKind.u32 0, Value.int IntKind.u64 0, Value.int IntKind.u32 0, Value.int IntKind.u32 0, Value.int IntKind.u32 0, Value.int IntKind.i64 0, Value.int IntKind.i64 0, Value.int IntKind.i64 0, Value.int IntKind.i64 0, Value.int IntKind.u64 0] = some m98 ∧
 ∃ (x99 : Int),
 ∃ (x100 : Int),
 ∃ (x101 : Int),
 ∃ (x102 : Int),
 ∃ (x103 : Int),
 ∃ (x104 : Int),
 ∃ (x105 : Int),
 ∃ (x106 : Int),
 ∃ (x107 : Int),
 ∃ (x108 : Int),
 ∃ (x109 : Int),
 ∃ (x110 : Int),
 ∃ (x111 : Int),
 ∃ (x112 : Int),
 ∃ (x113 : Int),
 ∃ (x114 : Int),
 ∃ (x115 : Int),
 ∃ (x116 : Int),
 ∃ (x117 : Int),
 ∃ (x118 : Int),
 ∃ (x119 : Int),
 rds m98 t5 0 21 = some [Value.int IntKind.u32 x99, Value.int IntKind.u32 x100, Value.int IntKind.i64 x101, Value.int IntKind.i64 x102, Value.int IntKind.u32 x103, Value.int IntKind.u32 x104, Value.int IntKind.u64 x105, Value.int IntKind.u64 x106, Value.int IntKind.i64 x107, Value.int IntKind.i64 x108, Value.int IntKind.u64 x109, Value.int IntKind.u32 x110, Value.int IntKind.u64 x111, Value.int IntKind.u32 x112, Value.int IntKind.u32 x113, Value.int IntKind.u32 x114, Value.int IntKind.i64 x115, Value.int IntKind.i64 x116, Value.int IntKind.i64 x117, Value.int IntKind.i64 x118, Value.int IntKind.u64 x119] ∧
 Q (Value.tuple { toList := [Value.int IntKind.i64 0, Value.agg { toList := [Value.int IntKind.u32 x99, Value.int IntKind.u32 x100, Value.int IntKind.i64 x101, Value.int IntKind.i64 x102, Value.int IntKind.u32 x103, Value.int IntKind.u32 x104, Value.int IntKind.u64 x105, Value.int IntKind.u64 x106, Value.int IntKind.i64 x107, Value.int IntKind.i64 x108, Value.int IntKind.u64 x109, Value.int IntKind.u32 x110, Value.int IntKind.u64 x111, Value.int IntKind.u32 x112, Value.int IntKind.u32 x113, Value.int IntKind.u32 x114, Value.int IntKind.i64 x115, Value.int IntKind.i64 x116, Value.int IntKind.i64 x117, Value.int IntKind.i64 x118, Value.int IntKind.u64 x119] }, Value.int IntKind.i64 13] }) m98 k73
 else
 isC m72 p = true ∧
 ∃ (x120 : Int),
 rd m72 p 2 = some (Value.int IntKind.i64 x120) ∧
 isC m72 p = true ∧
 ∃ (m121 : Mem),
 storeCs m72 p 2 [Value.int IntKind.i64 (IntKind.i64.wrap (x120 - 1))] = some m121 ∧
 ∃ (x122 : Int),
 ∃ (x123 : Int),
 ∃ (x124 : Int),
 ∃ (x125 : Int),
 ∃ (x126 : Int),
 ∃ (x127 : Int),
 ∃ (x128 : Int),
 ∃ (x129 : Int),
 ∃ (x130 : Int),
 ∃ (x131 : Int),
 ∃ (x132 : Int),
 ∃ (x133 : Int),
 ∃ (x134 : Int),
 ∃ (x135 : Int),
 ∃ (x136 : Int),
 ∃ (x137 : Int),
 ∃ (x138 : Int),
 ∃ (x139 : Int),
 ∃ (x140 : Int),
 ∃ (x141 : Int),
 ∃ (x142 : Int),
 rds m121 p 0 21 = some [Value.int IntKind.u32 x122, Value.int IntKind.u32 x123, Value.int IntKind.i64 x124, Value.int IntKind.i64 x125, Value.int IntKind.u32 x126, Value.int IntKind.u32 x127, Value.int IntKind.u64 x128, Value.int IntKind.u64 x129, Value.int IntKind.i64 x130, Value.int IntKind.i64 x131, Value.int IntKind.u64 x132, Value.int IntKind.u32 x133, Value.int IntKind.u64 x134, Value.int IntKind.u32 x135, Value.int IntKind.u32 x136, Value.int IntKind.u32 x137, Value.int IntKind.i64 x138, Value.int IntKind.i64 x139, Value.int IntKind.i64 x140, Value.int IntKind.i64 x141, Value.int IntKind.u64 x142] ∧
 ∃ (m143 : Mem),
 storeCs m121 t5 0 [Value.int IntKind.u32 x122, Value.int IntKind.u32 x123, Value.int IntKind.i64 x124, Value.int IntKind.i64 x125, Value.int IntKind.u32 x126, Value.int IntKind.u32 x127, Value.int IntKind.u64 x128, Value.int IntKind.u64 x129, Value.int IntKind.i64 x130, Value.int IntKind.i64 x131, Value.int IntKind.u64 x132, Value.int IntKind.u32 x133, Value.int IntKind.u64 x134, Value.int IntKind.u32 x135, Value.int IntKind.u32 x136, Value.int IntKind.u32 x137, Value.int IntKind.i64 x138, Value.int IntKind.i64 x139, Value.int IntKind.i64 x140, Value.int IntKind.i64 x141, Value.int IntKind.u64 x142] = some m143 ∧
 k73 + 5 ≤ k73 + 5 ∧
 ∃ (x144 : Int),
 ∃ (x145 : Int),
 ∃ (x146 : Int),
 ∃ (x147 : Int),
 ∃ (x148 : Int),
 ∃ (x149 : Int),
 ∃ (x150 : Int),
 ∃ (x151 : Int),
 ∃ (x152 : Int),
 ∃ (x153 : Int),
 ∃ (x154 : Int),
 ∃ (x155 : Int),
 ∃ (x156 : Int),
 ∃ (x157 : Int),
 ∃ (x158 : Int),
 ∃ (x159 : Int),
 ∃ (x160 : Int),
 ∃ (x161 : Int),
 ∃ (x162 : Int),
 ∃ (x163 : Int),
 ∃ (x164 : Int),
 rds m143 t5 0 21 = some [Value.int IntKind.u32 x144, Value.int IntKind.u32 x145, Value.int IntKind.i64 x146, Value.int IntKind.i64 x147, Value.int IntKind.u32 x148, Value.int IntKind.u32 x149, Value.int IntKind.u64 x150, Value.int IntKind.u64 x151, Value.int IntKind.i64 x152, Value.int IntKind.i64 x153, Value.int IntKind.u64 x154, Value.int IntKind.u32 x155, Value.int IntKind.u64 x156, Value.int IntKind.u32 x157, Value.int IntKind.u32 x158, Value.int IntKind.u32 x159, Value.int IntKind.i64 x160, Value.int IntKind.i64 x161, Value.int IntKind.i64 x162, Value.int IntKind.i64 x163, Value.int IntKind.u64 x164] ∧
 Q
 (Value.tuple
 { toList := [Value.int IntKind.i64 x70, Value.agg { toList := [Value.int IntKind.u32 x144, Value.int IntKind.u32 x145, Value.int IntKind.i64 x146, Value.int IntKind.i64 x147, Value.int IntKind.u32 x148, Value.int IntKind.u32 x149, Value.int IntKind.u64 x150, Value.int IntKind.u64 x151, Value.int IntKind.i64 x152, Value.int IntKind.i64 x153, Value.int IntKind.u64 x154, Value.int IntKind.u32 x155, Value.int IntKind.u64 x156, Value.int IntKind.u32 x157, Value.int IntKind.u32 x158, Value.int IntKind.u32 x159, Value.int IntKind.i64 x160, Value.int IntKind.i64 x161, Value.int IntKind.i64 x162, Value.int IntKind.i64 x163, Value.int IntKind.u64 x164] }, Value.int IntKind.i64 0] })
 m143 (k73 + 5))))) := by kernel_rfl

/- 34 leafmesh/addr.Loopback -/
theorem xAddrLoopback (m : Mem) (n : Nat) (Q : Value → Mem → Nat → Prop) (n' : Int) :
 Xc Try.prog xcfg 400 fAddrLoopback [Value.int IntKind.i64 n'] m n Q =
 (bif decide (n' < 0) then Q (Value.tuple { toList := [Value.int IntKind.u32 0, Value.int IntKind.i64 2] }) m n else bif decide (n' ≥ 32) then Q (Value.tuple { toList := [Value.int IntKind.u32 0, Value.int IntKind.i64 2] }) m n else Q (Value.tuple { toList := [Value.int IntKind.u32 (IntKind.u32.wrap (IntKind.u32.wrap (184483840 + IntKind.u32.wrap n') + 1)), Value.int IntKind.i64 0] }) m n) := by kernel_rfl

/- 38 leafmesh/leafmeshkit.Has[int] -/
theorem xKitHasint (m : Mem) (n : Nat) (Q : Value → Mem → Nat → Prop) (l_a : Option Addr) (l_l : Nat) (l_c : Nat) (x : Int) :
 Xc Try.prog xcfg 400 fKitHasint [Value.slice l_a l_l l_c, Value.int IntKind.i64 x] m n Q =
 (W Try.prog { fn := fKitHasint, nt := 18, slots := [(0, Value.slice l_a l_l l_c), (1, Value.int IntKind.i64 x), (5, Value.int IntKind.i64 0)], todo := pt Try.prog fKitHasint [1, 0, 1, 0, 0] } m n Q) := by kernel_rfl

theorem xKitHasintk0 (m : Mem) (n : Nat) (Q : Value → Mem → Nat → Prop) (l_a : Option Addr) (l_l : Nat) (l_c : Nat) (x : Int) (i : Int) :
 xF (evX Try.prog xcfg 400) { fn := fKitHasint, nt := 18, slots := [(0, Value.slice l_a l_l l_c), (1, Value.int IntKind.i64 x), (5, Value.int IntKind.i64 i)], todo := pt Try.prog fKitHasint [1, 0, 1, 0, 0] } m n Q =
 (bif decide (i < (↑l_l : Int)) then elimA l_a False fun (k0 k1 : Nat) (p2 : Option Nat) => (0 ≤ i ∧ i < (↑l_l : Int) ∧ liveAt m k0 = true ∧ (p2 ≠ none → 0 < l_c)) ∧ ∃ (x3 : Int), rd m k0 (offOf k1 p2 + i.toNat * 1) = some (Value.int IntKind.i64 x3) ∧ bif x3 == x then Q (Value.bool true) m n else W Try.prog { fn := fKitHasint, nt := 18, slots := [(0, Value.slice l_a l_l l_c), (1, Value.int IntKind.i64 x), (5, Value.int IntKind.i64 (IntKind.i64.wrap (i + 1)))], todo := pt Try.prog fKitHasint [1, 0, 1, 0, 0] } m n Q else Q (Value.bool false) m n) := by kernel_rfl

/- 39 slices.Clone[[]leafmesh/api.Link,leafmesh/api.Link] -/
theorem xSlicesCloneLapiLinkapiLink (m : Mem) (n : Nat) (Q : Value → Mem → Nat → Prop) (s_a : Option Addr) (s_l : Nat) (s_c : Nat) :
 Xc Try.prog xcfg 400 fSlicesCloneLapiLinkapiLink [Value.slice s_a s_l s_c] m n Q =
 (elimA s_a (Q (Value.slice none 0 0) m n) fun (k0 k1 : Nat) (p2 : Option Nat) => ∃ (b3 : Bool), nilAt m k0 = some b3 ∧ bif b3 then Q (Value.slice none 0 0) m n else memLet (Tr.set m n (AObj.cells none tApiLink 3 [])) fun (m4 : Mem) => ∃ (p5 : Option Addr), ∃ (k6 : Nat), ∃ (k7 : Nat), ∃ (m8 : Mem), ∃ (k9 : Nat), appendA Try.prog m4 (n + 1) tLapiLink tLapiLink (Value.slice (some { block := n, off := 0 }) 0 0) (Value.slice s_a s_l s_c) = Eff.val (Value.slice p5 k6 k7) m8 k9 ∧ Q (Value.slice p5 k6 k7) m8 k9) := by kernel_rfl

/- 40 (*leafmesh/fib.Fib).valid -/
theorem xFibFibvalid (m : Mem) (n : Nat) (Q : Value → Mem → Nat → Prop) (f : Nat) :
 Xc Try.prog xcfg 400 fFibFibvalid [Value.pointer (some { block := f, off := 0 })] m n Q =
 (isC m f = true ∧ ∃ (p0 : Option Addr), rd m f 0 = some (Value.pointer p0) ∧ Q (Value.bool !p0.isNone) m n) := by kernel_rfl

/- 41 (*leafmesh/fib.state).wheel -/
theorem xFibstatewheel (m : Mem) (n : Nat) (Q : Value → Mem → Nat → Prop) (s : Nat) (n' : Int) :
 Xc Try.prog xcfg 400 fFibstatewheel [Value.pointer (some { block := s, off := 0 }), Value.int IntKind.i64 n'] m n Q =
 (isC m s = true ∧
 ∃ (p0 : Option Nat),
 rd m s 4 = some (Value.map p0) ∧
 ∃ (l1 : List (Value × Value)),
 mapOf m (Value.map p0) = some l1 ∧
 (l1.all fun (e : Value × Value) => Ab.keyOf IntKind.i64 e.fst) = true ∧
 elimE (List.find? (fun (e : Value × Value) => keyIs IntKind.i64 n' e.fst) l1)
 (Wc Try.prog fSpreadNew [Value.int IntKind.i64 64] m n fun (v2 : Value) (m3 : Mem) (k4 : Nat) => ∃ (p5 : Option Addr), ∃ (x6 : Int), v2 = Value.tuple { toList := [Value.pointer p5, Value.int IntKind.i64 x6] } ∧ Later (isC m3 s = true ∧ ∃ (p7 : Option Nat), rd m3 s 4 = some (Value.map p7) ∧ elimM p7 False fun (k8 : Nat) => ∃ (l9 : List (Value × Value)), ∃ (k10 : Nat), Tr.get m3 k8 = some (AObj.map l9 k10) ∧ (l9.all fun (e : Value × Value) => Ab.keyOf IntKind.i64 e.fst) = true ∧ bif l9.any fun (e : Value × Value) => keyIs IntKind.i64 n' e.fst then memLet (Tr.set m3 k8 (AObj.map (setKey l9 IntKind.i64 n' (Value.pointer p5)) k10)) fun (m11 : Mem) => Q (Value.pointer p5) m11 k4 else memLet (Tr.set m3 k8 (AObj.map (l9 ++ [(Value.int IntKind.i64 n', Value.pointer p5)]) (k10 + 1))) fun (m12 : Mem) => Q (Value.pointer p5) m12 k4)) fun (y13 : Value × Value) =>
 ∃ (p14 : Option Addr), y13.snd = Value.pointer p14 ∧ Q (Value.pointer p14) m n) := by kernel_rfl

/- 42 (*leafmesh/spread.Wheel).Set -/
theorem xSpreadWheelSet (m : Mem) (n : Nat) (Q : Value → Mem → Nat → Prop) (w : Nat) (next_a : Option Addr) (next_l : Nat) (next_c : Nat) :
 Xc Try.prog xcfg 400 fSpreadWheelSet [Value.pointer (some { block := w, off := 0 }), Value.slice next_a next_l next_c] m n Q =
 (memLet (Tr.set m n (AObj.cells none tPspreadWheel 1 [Value.pointer (some { block := w, off := 0 })])) fun (m0 : Mem) => W Try.prog { fn := fSpreadWheelSet, nt := 179, slots := [(1, Value.slice next_a next_l next_c), (2, Value.pointer (some { block := n, off := 0 }))], todo := pt Try.prog fSpreadWheelSet [1, 0, 0] } m0 (n + 1) Q) := by kernel_rfl

theorem xSpreadWheelSetk0 (m : Mem) (n : Nat) (Q : Value → Mem → Nat → Prop) (next_a : Option Addr) (next_l : Nat) (next_c : Nat) (w_1 : Option Addr) (ds : List Deferred) :
 xF (ev1 Try.prog xcfg 400) { fn := fSpreadWheelSet, nt := 179, slots := [(1, Value.slice next_a next_l next_c), (2, Value.pointer w_1)], todo := pt Try.prog fSpreadWheelSet [1, 0, 0], defers := ds } m n Q =
 (elimP w_1 False fun (k0 k1 : Nat) => ∃ (p2 : Option Addr), rd m k0 k1 = some (Value.pointer p2) ∧ Wc Try.prog fSpreadWheelvalid [Value.pointer p2] m n fun (v3 : Value) (m4 : Mem) (k5 : Nat) => ∃ (b6 : Bool), v3 = Value.bool b6 ∧ Later (bif !b6 then ∃ (l7 : List Nat), (ds = List.map collD l7 ∧ List.Pairwise (fun (x1 x2 : Nat) => x1 ≠ x2) l7 ∧ ∀ (k8 : Nat), List.Mem k8 l7 → Tr.get m4 k8 = some (AObj.deferred (some []))) ∧ memLet (clrAll l7 m4) fun (m9 : Mem) => Q (Value.int IntKind.i64 1) m9 k5 else W Try.prog { fn := fSpreadWheelSet, nt := 179, slots := [(1, Value.slice next_a next_l next_c), (2, Value.pointer w_1), (18, Value.slice next_a next_l next_c), (19, Value.int IntKind.i64 (↑next_l : Int)), (20, Value.int IntKind.i64 0)], todo := pt Try.prog fSpreadWheelSet [1, 1, 0, 1, 0, 0], defers := ds } m4 k5 Q)) := by kernel_rfl

theorem xSpreadWheelSetk1 (m : Mem) (n : Nat) (Q : Value → Mem → Nat → Prop) (next_a : Option Addr) (next_l : Nat) (next_c : Nat) (w_1 : Option Addr) (t19 : Int) (t20 : Int) (ds : List Deferred) :
 xF (evX Try.prog xcfg 400) { fn := fSpreadWheelSet, nt := 179, slots := [(1, Value.slice next_a next_l next_c), (2, Value.pointer w_1), (18, Value.slice next_a next_l next_c), (19, Value.int IntKind.i64 t19), (20, Value.int IntKind.i64 t20)], todo := pt Try.prog fSpreadWheelSet [1, 1, 0, 1, 0, 0], defers := ds } m n Q =
 (bif decide (t20 < t19) then
 elimA next_a False fun (k0 k1 : Nat) (p2 : Option Nat) =>
 (0 ≤ t20 ∧ t20 < (↑next_l : Int) ∧ liveAt m k0 = true ∧ (p2 ≠ none → 0 < next_c)) ∧
 ∃ (x3 : Int),
 rd m k0 (offOf k1 p2 + t20.toNat * 1) = some (Value.int IntKind.i64 x3) ∧
 bif decide (x3 < 0) then ∃ (l4 : List Nat), (ds = List.map collD l4 ∧ List.Pairwise (fun (x1 x2 : Nat) => x1 ≠ x2) l4 ∧ ∀ (k5 : Nat), List.Mem k5 l4 → Tr.get m k5 = some (AObj.deferred (some []))) ∧ memLet (clrAll l4 m) fun (m6 : Mem) => Q (Value.int IntKind.i64 2) m6 n
 else
 bif decide (x3 ≥ 128) then ∃ (l7 : List Nat), (ds = List.map collD l7 ∧ List.Pairwise (fun (x1 x2 : Nat) => x1 ≠ x2) l7 ∧ ∀ (k8 : Nat), List.Mem k8 l7 → Tr.get m k8 = some (AObj.deferred (some []))) ∧ memLet (clrAll l7 m) fun (m9 : Mem) => Q (Value.int IntKind.i64 2) m9 n
 else
 bif decide (t20 > 0) then
 elimA next_a False fun (k10 k11 : Nat) (p12 : Option Nat) =>
 (0 ≤ IntKind.i64.wrap (t20 - 1) ∧ IntKind.i64.wrap (t20 - 1) < (↑next_l : Int) ∧ liveAt m k10 = true ∧ (p12 ≠ none → 0 < next_c)) ∧ ∃ (x13 : Int), rd m k10 (offOf k11 p12 + (IntKind.i64.wrap (t20 - 1)).toNat * 1) = some (Value.int IntKind.i64 x13) ∧ bif decide (x3 ≤ x13) then ∃ (l14 : List Nat), (ds = List.map collD l14 ∧ List.Pairwise (fun (x1 x2 : Nat) => x1 ≠ x2) l14 ∧ ∀ (k15 : Nat), List.Mem k15 l14 → Tr.get m k15 = some (AObj.deferred (some []))) ∧ memLet (clrAll l14 m) fun (m16 : Mem) => Q (Value.int IntKind.i64 10) m16 n else W Try.prog { fn := fSpreadWheelSet, nt := 179, slots := [(1, Value.slice next_a next_l next_c), (2, Value.pointer w_1), (18, Value.slice next_a next_l next_c), (19, Value.int IntKind.i64 t19), (20, Value.int IntKind.i64 (IntKind.i64.wrap (t20 + 1)))], todo := pt Try.prog fSpreadWheelSet [1, 1, 0, 1, 0, 0], defers := ds } m n Q
 else W Try.prog { fn := fSpreadWheelSet, nt := 179, slots := [(1, Value.slice next_a next_l next_c), (2, Value.pointer w_1), (18, Value.slice next_a next_l next_c), (19, Value.int IntKind.i64 t19), (20, Value.int IntKind.i64 (IntKind.i64.wrap (t20 + 1)))], todo := pt Try.prog fSpreadWheelSet [1, 1, 0, 1, 0, 0], defers := ds } m n Q
 else
 elimP w_1 False fun (k17 k18 : Nat) =>
 ∃ (p19 : Option Addr),
 rd m k17 k18 = some (Value.pointer p19) ∧
 elimP p19 False fun (k20 k21 : Nat) =>
 isC m k20 = true ∧
 ∃ (p22 : Option Addr),
 rd m k20 (k21 + 0) = some (Value.pointer p22) ∧
 elimP p22 False fun (k23 k24 : Nat) =>
 isC m k23 = true ∧
 ∃ (p25 : Option Addr),
 ∃ (k26 : Nat),
 ∃ (k27 : Nat),
 rd m k23 (k24 + 1) = some (Value.slice p25 k26 k27) ∧
 bif decide ((↑next_l : Int) > (↑k26 : Int)) then ∃ (l28 : List Nat), (ds = List.map collD l28 ∧ List.Pairwise (fun (x1 x2 : Nat) => x1 ≠ x2) l28 ∧ ∀ (k29 : Nat), List.Mem k29 l28 → Tr.get m k29 = some (AObj.deferred (some []))) ∧ memLet (clrAll l28 m) fun (m30 : Mem) => Q (Value.int IntKind.i64 7) m30 n
 else
 elimP w_1 False fun (k31 k32 : Nat) =>
 ∃ (p33 : Option Addr),
 rd m k31 k32 = some (Value.pointer p33) ∧
 elimP p33 False fun (k34 k35 : Nat) =>
 isC m k34 = true ∧
 ∃ (p36 : Option Addr),
 rd m k34 (k35 + 0) = some (Value.pointer p36) ∧
 ∃ (p37 : Option Addr),
 ∃ (k38 : Nat),
 ∃ (k39 : Nat),
 ∃ (m40 : Mem),
 ∃ (k41 : Nat),
 (Wc Try.prog fSlicesCloneLintint [Value.slice next_a next_l next_c] m (n + 9) fun (v42 : Value) (m43 : Mem) (k44 : Nat) => v42 = Value.slice p37 k38 k39 ∧ m43 = m40 ∧ k44 = k41) ∧
 Later
 (elimP p36 False fun (k45 k46 : Nat) =>
 isC m40 k45 = true ∧
 ∃ (m47 : Mem),
 storeCs m40 k45 (k46 + 0) [Value.slice p37 k38 k39] = some m47 ∧
 (∃ (p48 : Option Addr), rd m40 k34 (k35 + 0) = some (Value.pointer p48) ∧ Value.pointer p48 = Value.pointer p36) ∧
 (isC m40 k34 = true ∧ Value.pointer (some { block := k34, off := k35 + 0 }) = Value.pointer (some { block := k34, off := k35 + 0 })) ∧
 (elimP w_1 False fun (k49 k50 : Nat) => ∃ (p51 : Option Addr), rd m40 k49 k50 = some (Value.pointer p51) ∧ Value.pointer p51 = Value.pointer p33) ∧
 n + 9 ≤ k41 ∧ n + 9 ≤ k41 ∧ elimP w_1 False fun (k52 k53 : Nat) => ∃ (p54 : Option Addr), rd m47 k52 k53 = some (Value.pointer p54) ∧ elimP p54 False fun (k55 k56 : Nat) => isC m47 k55 = true ∧ ∃ (p57 : Option Addr), rd m47 k55 (k56 + 0) = some (Value.pointer p57) ∧ elimP p57 False fun (k58 k59 : Nat) => isC m47 k58 = true ∧ ∃ (p60 : Option Addr), ∃ (k61 : Nat), ∃ (k62 : Nat), rd m47 k58 (k59 + 1) = some (Value.slice p60 k61 k62) ∧ W Try.prog { fn := fSpreadWheelSet, nt := 179, slots := [(1, Value.slice next_a next_l next_c), (2, Value.pointer w_1), (70, Value.slice p60 k61 k62), (71, Value.int IntKind.i64 (↑k61 : Int)), (72, Value.int IntKind.i64 0)], todo := pt Try.prog fSpreadWheelSet [1, 1, 1, 1, 1, 0, 1, 0, 0], defers := ds } m47 k41 Q)) := by kernel_rfl

theorem xSpreadWheelSetk2 (m : Mem) (n : Nat) (Q : Value → Mem → Nat → Prop) (next_a : Option Addr) (next_l : Nat) (next_c : Nat) (w_1 : Option Addr) (t70_a : Option Addr) (t70_l : Nat) (t70_c : Nat) (t71 : Int) (t72 : Int) (ds : List Deferred) :
 xF (evX Try.prog xcfg 400) { fn := fSpreadWheelSet, nt := 179, slots := [(1, Value.slice next_a next_l next_c), (2, Value.pointer w_1), (70, Value.slice t70_a t70_l t70_c), (71, Value.int IntKind.i64 t71), (72, Value.int IntKind.i64 t72)], todo := pt Try.prog fSpreadWheelSet [1, 1, 1, 1, 1, 0, 1, 0, 0], defers := ds } m n Q =
 (bif decide (t72 < t71) then
 elimA t70_a False fun (k0 k1 : Nat) (p2 : Option Nat) =>
 (0 ≤ t72 ∧ t72 < (↑t70_l : Int) ∧ liveAt m k0 = true ∧ (p2 ≠ none → 0 < t70_c)) ∧
 ∃ (x3 : Int),
 rd m k0 (offOf k1 p2 + t72.toNat * 1) = some (Value.int IntKind.i64 x3) ∧
 Wc Try.prog fSlicesContainsLintint [Value.slice next_a next_l next_c, Value.int IntKind.i64 x3] m n fun (v4 : Value) (m5 : Mem) (k6 : Nat) =>
 ∃ (b7 : Bool),
 v4 = Value.bool b7 ∧
 Later
 (bif !b7 then
 elimP w_1 False fun (k8 k9 : Nat) =>
 ∃ (p10 : Option Addr),
 rd m5 k8 k9 = some (Value.pointer p10) ∧
 elimP p10 False fun (k11 k12 : Nat) =>
 isC m5 k11 = true ∧ ∃ (p13 : Option Addr), rd m5 k11 (k12 + 0) = some (Value.pointer p13) ∧ elimP p13 False fun (k14 k15 : Nat) => isC m5 k14 = true ∧ ∃ (p16 : Option Addr), ∃ (k17 : Nat), ∃ (k18 : Nat), rd m5 k14 (k15 + 1) = some (Value.slice p16 k17 k18) ∧ elimA p16 False fun (k19 k20 : Nat) (p21 : Option Nat) => (0 ≤ t72 ∧ t72 < (↑k17 : Int) ∧ liveAt m5 k19 = true ∧ (p21 ≠ none → 0 < k18)) ∧ ∃ (m22 : Mem), storeCs m5 k19 (offOf k20 p21 + t72.toNat * 1) [Value.int IntKind.i64 (-1)] = some m22 ∧ W Try.prog { fn := fSpreadWheelSet, nt := 179, slots := [(1, Value.slice next_a next_l next_c), (2, Value.pointer w_1), (70, Value.slice t70_a t70_l t70_c), (71, Value.int IntKind.i64 t71), (72, Value.int IntKind.i64 (IntKind.i64.wrap (t72 + 1)))], todo := pt Try.prog fSpreadWheelSet [1, 1, 1, 1, 1, 0, 1, 0, 0], defers := ds } m22 k6 Q
 else W Try.prog { fn := fSpreadWheelSet, nt := 179, slots := [(1, Value.slice next_a next_l next_c), (2, Value.pointer w_1), (70, Value.slice t70_a t70_l t70_c), (71, Value.int IntKind.i64 t71), (72, Value.int IntKind.i64 (IntKind.i64.wrap (t72 + 1)))], todo := pt Try.prog fSpreadWheelSet [1, 1, 1, 1, 1, 0, 1, 0, 0], defers := ds } m5 k6 Q)
 else
 bif (↑next_l : Int) == 0 then ∃ (l23 : List Nat), (ds = List.map collD l23 ∧ List.Pairwise (fun (x1 x2 : Nat) => x1 ≠ x2) l23 ∧ ∀ (k24 : Nat), List.Mem k24 l23 → Tr.get m k24 = some (AObj.deferred (some []))) ∧ memLet (clrAll l23 m) fun (m25 : Mem) => Q (Value.int IntKind.i64 0) m25 n
 else elimP w_1 False fun (k26 k27 : Nat) => ∃ (p28 : Option Addr), rd m k26 k27 = some (Value.pointer p28) ∧ elimP p28 False fun (k29 k30 : Nat) => isC m k29 = true ∧ ∃ (p31 : Option Addr), rd m k29 (k30 + 0) = some (Value.pointer p31) ∧ elimP p31 False fun (k32 k33 : Nat) => isC m k32 = true ∧ ∃ (p34 : Option Addr), ∃ (k35 : Nat), ∃ (k36 : Nat), rd m k32 (k33 + 1) = some (Value.slice p34 k35 k36) ∧ W Try.prog { fn := fSpreadWheelSet, nt := 179, slots := [(2, Value.pointer w_1), (100, Value.slice p34 k35 k36), (101, Value.int IntKind.i64 (↑k35 : Int)), (102, Value.int IntKind.i64 0)], todo := pt Try.prog fSpreadWheelSet [1, 1, 1, 1, 1, 1, 1, 0, 1, 0, 0], defers := ds } m n Q) := by kernel_rfl

theorem xSpreadWheelSetk3 (m : Mem) (n : Nat) (Q : Value → Mem → Nat → Prop) (w_1 : Option Addr) (t100_a : Option Addr) (t100_l : Nat) (t100_c : Nat) (t101 : Int) (t102 : Int) (ds : List Deferred) :
 xF (evX Try.prog xcfg 400) { fn := fSpreadWheelSet, nt := 179, slots := [(2, Value.pointer w_1), (100, Value.slice t100_a t100_l t100_c), (101, Value.int IntKind.i64 t101), (102, Value.int IntKind.i64 t102)], todo := pt Try.prog fSpreadWheelSet [1, 1, 1, 1, 1, 1, 1, 0, 1, 0, 0], defers := ds } m n Q =
 (bif decide (t102 < t101) then
 elimA t100_a False fun (k0 k1 : Nat) (p2 : Option Nat) =>
 (0 ≤ t102 ∧ t102 < (↑t100_l : Int) ∧ liveAt m k0 = true ∧ (p2 ≠ none → 0 < t100_c)) ∧
 ∃ (x3 : Int),
 rd m k0 (offOf k1 p2 + t102.toNat * 1) = some (Value.int IntKind.i64 x3) ∧
 bif x3 == -1 then
 elimP w_1 False fun (k4 k5 : Nat) =>
 ∃ (p6 : Option Addr),
 rd m k4 k5 = some (Value.pointer p6) ∧
 elimP p6 False fun (k7 k8 : Nat) =>
 isC m k7 = true ∧
 ∃ (p9 : Option Addr),
 rd m k7 (k8 + 0) = some (Value.pointer p9) ∧
 elimP p9 False fun (k10 k11 : Nat) =>
 isC m k10 = true ∧
 ∃ (p12 : Option Addr),
 ∃ (k13 : Nat),
 ∃ (k14 : Nat),
 rd m k10 (k11 + 1) = some (Value.slice p12 k13 k14) ∧
 elimP w_1 False fun (k15 k16 : Nat) =>
 ∃ (p17 : Option Addr),
 rd m k15 k16 = some (Value.pointer p17) ∧
 elimP p17 False fun (k18 k19 : Nat) =>
 isC m k18 = true ∧
 ∃ (p20 : Option Addr),
 rd m k18 (k19 + 0) = some (Value.pointer p20) ∧
 ∃ (x21 : Int),
 ∃ (m22 : Mem),
 ∃ (k23 : Nat),
 (Wc Try.prog fSpreadstateleast [Value.pointer p20] m (n + 15) fun (v24 : Value) (m25 : Mem) (k26 : Nat) => v24 = Value.int IntKind.i64 x21 ∧ m25 = m22 ∧ k26 = k23) ∧
 Later
 (elimA p12 False fun (k27 k28 : Nat) (p29 : Option Nat) =>
 (0 ≤ t102 ∧ t102 < (↑k13 : Int) ∧ liveAt m22 k27 = true ∧ (p29 ≠ none → 0 < k14)) ∧
 ∃ (m30 : Mem),
 storeCs m22 k27 (offOf k28 p29 + t102.toNat * 1) [Value.int IntKind.i64 x21] = some m30 ∧
 (∃ (p31 : Option Addr), ∃ (k32 : Nat), ∃ (k33 : Nat), rd m22 k10 (k11 + 1) = some (Value.slice p31 k32 k33) ∧ Value.slice p31 k32 k33 = Value.slice p12 k13 k14) ∧
 (isC m22 k10 = true ∧ Value.pointer (some { block := k10, off := k11 + 1 }) = Value.pointer (some { block := k10, off := k11 + 1 })) ∧
 (∃ (p34 : Option Addr), rd m22 k7 (k8 + 0) = some (Value.pointer p34) ∧ Value.pointer p34 = Value.pointer p9) ∧ (isC m22 k7 = true ∧ Value.pointer (some { block := k7, off := k8 + 0 }) = Value.pointer (some { block := k7, off := k8 + 0 })) ∧ (elimP w_1 False fun (k35 k36 : Nat) => ∃ (p37 : Option Addr), rd m22 k35 k36 = some (Value.pointer p37) ∧ Value.pointer p37 = Value.pointer p6) ∧ n + 15 ≤ k23 ∧ n + 15 ≤ k23 ∧ W Try.prog { fn := fSpreadWheelSet, nt := 179, slots := [(2, Value.pointer w_1), (100, Value.slice t100_a t100_l t100_c), (101, Value.int IntKind.i64 t101), (102, Value.int IntKind.i64 (IntKind.i64.wrap (t102 + 1)))], todo := pt Try.prog fSpreadWheelSet [1, 1, 1, 1, 1, 1, 1, 0, 1, 0, 0], defers := ds } m30 k23 Q)
 else W Try.prog { fn := fSpreadWheelSet, nt := 179, slots := [(2, Value.pointer w_1), (100, Value.slice t100_a t100_l t100_c), (101, Value.int IntKind.i64 t101), (102, Value.int IntKind.i64 (IntKind.i64.wrap (t102 + 1)))], todo := pt Try.prog fSpreadWheelSet [1, 1, 1, 1, 1, 1, 1, 0, 1, 0, 0], defers := ds } m n Q
 else W Try.prog { fn := fSpreadWheelSet, nt := 179, slots := [(2, Value.pointer w_1)], todo := pt Try.prog fSpreadWheelSet [1, 1, 1, 1, 1, 1, 1, 1, 0, 0, 0], defers := ds } m n Q) := by kernel_rfl

theorem xSpreadWheelSetk4 (m : Mem) (n : Nat) (Q : Value → Mem → Nat → Prop) (w_1 : Option Addr) (ds : List Deferred) :
 xF (evX Try.prog xcfg 400) { fn := fSpreadWheelSet, nt := 179, slots := [(2, Value.pointer w_1)], todo := pt Try.prog fSpreadWheelSet [1, 1, 1, 1, 1, 1, 1, 1, 0, 0, 0], defers := ds } m n Q =
 (elimP w_1 False fun (k0 k1 : Nat) =>
 ∃ (p2 : Option Addr),
 rd m k0 k1 = some (Value.pointer p2) ∧
 elimP p2 False fun (k3 k4 : Nat) =>
 isC m k3 = true ∧
 ∃ (p5 : Option Addr),
 rd m k3 (k4 + 0) = some (Value.pointer p5) ∧
 elimP w_1 False fun (k6 k7 : Nat) =>
 ∃ (p8 : Option Addr),
 rd m k6 k7 = some (Value.pointer p8) ∧
 elimP p8 False fun (k9 k10 : Nat) =>
 isC m k9 = true ∧
 ∃ (p11 : Option Addr),
 rd m k9 (k10 + 0) = some (Value.pointer p11) ∧
 ∃ (x12 : Int),
 ∃ (m13 : Mem),
 ∃ (k14 : Nat),
 (Wc Try.prog fSpreadstatemost [Value.pointer p11] m (n + 22) fun (v15 : Value) (m16 : Mem) (k17 : Nat) => v15 = Value.int IntKind.i64 x12 ∧ m16 = m13 ∧ k17 = k14) ∧
 Later
 (∃ (x18 : Int),
 ∃ (m19 : Mem),
 ∃ (k20 : Nat),
 (Wc Try.prog fSpreadstateload [Value.pointer p5, Value.int IntKind.i64 x12] m13 k14 fun (v21 : Value) (m22 : Mem) (k23 : Nat) => v21 = Value.int IntKind.i64 x18 ∧ m22 = m19 ∧ k23 = k20) ∧
 Later
 (elimP w_1 False fun (k24 k25 : Nat) =>
 ∃ (p26 : Option Addr),
 rd m19 k24 k25 = some (Value.pointer p26) ∧
 elimP p26 False fun (k27 k28 : Nat) =>
 isC m19 k27 = true ∧
 ∃ (p29 : Option Addr),
 rd m19 k27 (k28 + 0) = some (Value.pointer p29) ∧
 elimP w_1 False fun (k30 k31 : Nat) =>
 ∃ (p32 : Option Addr),
 rd m19 k30 k31 = some (Value.pointer p32) ∧
 elimP p32 False fun (k33 k34 : Nat) =>
 isC m19 k33 = true ∧
 ∃ (p35 : Option Addr),
 rd m19 k33 (k34 + 0) = some (Value.pointer p35) ∧
 ∃ (x36 : Int),
 ∃ (m37 : Mem),
 ∃ (k38 : Nat),
 (Wc Try.prog fSpreadstateleast [Value.pointer p35] m19 k20 fun (v39 : Value) (m40 : Mem) (k41 : Nat) => v39 = Value.int IntKind.i64 x36 ∧ m40 = m37 ∧ k41 = k38) ∧
 Later
 (∃ (x42 : Int),
 ∃ (m43 : Mem),
 ∃ (k44 : Nat),
 (Wc Try.prog fSpreadstateload [Value.pointer p29, Value.int IntKind.i64 x36] m37 k38 fun (v45 : Value) (m46 : Mem) (k47 : Nat) => v45 = Value.int IntKind.i64 x42 ∧ m46 = m43 ∧ k47 = k44) ∧
 Later
 ((∃ (p48 : Option Addr), rd m k33 (k34 + 0) = some (Value.pointer p48) ∧ Value.pointer p48 = Value.pointer p35) ∧
 (∃ (p49 : Option Addr), rd m13 k33 (k34 + 0) = some (Value.pointer p49) ∧ Value.pointer p49 = Value.pointer p35) ∧
 (isC m k33 = true ∧ Value.pointer (some { block := k33, off := k34 + 0 }) = Value.pointer (some { block := k33, off := k34 + 0 })) ∧
 (isC m13 k33 = true ∧ Value.pointer (some { block := k33, off := k34 + 0 }) = Value.pointer (some { block := k33, off := k34 + 0 })) ∧
 (elimP w_1 False fun (k50 k51 : Nat) => ∃ (p52 : Option Addr), rd m k50 k51 = some (Value.pointer p52) ∧ Value.pointer p52 = Value.pointer p32) ∧
 (elimP w_1 False fun (k53 k54 : Nat) => ∃ (p55 : Option Addr), rd m13 k53 k54 = some (Value.pointer p55) ∧ Value.pointer p55 = Value.pointer p32) ∧
 (∃ (p56 : Option Addr), rd m k27 (k28 + 0) = some (Value.pointer p56) ∧ Value.pointer p56 = Value.pointer p29) ∧
 (∃ (p57 : Option Addr), rd m13 k27 (k28 + 0) = some (Value.pointer p57) ∧ Value.pointer p57 = Value.pointer p29) ∧
 (∃ (p58 : Option Addr), rd m37 k27 (k28 + 0) = some (Value.pointer p58) ∧ Value.pointer p58 = Value.pointer p29) ∧
 (isC m k27 = true ∧ Value.pointer (some { block := k27, off := k28 + 0 }) = Value.pointer (some { block := k27, off := k28 + 0 })) ∧
 (isC m13 k27 = true ∧ Value.pointer (some { block := k27, off := k28 + 0 }) = Value.pointer (some { block := k27, off := k28 + 0 })) ∧
 (isC m37 k27 = true ∧ Value.pointer (some { block := k27, off := k28 + 0 }) = Value.pointer (some { block := k27, off := k28 + 0 })) ∧
 (elimP w_1 False fun (k59 k60 : Nat) => ∃ (p61 : Option Addr), rd m k59 k60 = some (Value.pointer p61) ∧ Value.pointer p61 = Value.pointer p26) ∧
 (elimP w_1 False fun (k62 k63 : Nat) => ∃ (p64 : Option Addr), rd m13 k62 k63 = some (Value.pointer p64) ∧ Value.pointer p64 = Value.pointer p26) ∧
 (elimP w_1 False fun (k65 k66 : Nat) => ∃ (p67 : Option Addr), rd m37 k65 k66 = some (Value.pointer p67) ∧ Value.pointer p67 = Value.pointer p26) ∧
 (∃ (p68 : Option Addr), rd m13 k3 (k4 + 0) = some (Value.pointer p68) ∧ Value.pointer p68 = Value.pointer p5) ∧
 (isC m13 k3 = true ∧ Value.pointer (some { block := k3, off := k4 + 0 }) = Value.pointer (some { block := k3, off := k4 + 0 })) ∧
 (elimP w_1 False fun (k69 k70 : Nat) => ∃ (p71 : Option Addr), rd m13 k69 k70 = some (Value.pointer p71) ∧ Value.pointer p71 = Value.pointer p2) ∧
 n + 22 ≤ k14 ∧
 n + 22 ≤ k20 ∧
 n + 22 ≤ k38 ∧
 n + 22 ≤ k44 ∧
 bif decide (IntKind.i64.wrap (x18 - x42) > 1) then
 elimP w_1 False fun (k72 k73 : Nat) =>
 ∃ (p74 : Option Addr),
 rd m43 k72 k73 = some (Value.pointer p74) ∧
 elimP p74 False fun (k75 k76 : Nat) =>
 isC m43 k75 = true ∧
 ∃ (p77 : Option Addr),
 rd m43 k75 (k76 + 0) = some (Value.pointer p77) ∧
 ∃ (x78 : Int),
 ∃ (m79 : Mem),
 ∃ (k80 : Nat),
 (Wc Try.prog fSpreadstatemost [Value.pointer p77] m43 (k44 + 14) fun (v81 : Value) (m82 : Mem) (k83 : Nat) => v81 = Value.int IntKind.i64 x78 ∧ m82 = m79 ∧ k83 = k80) ∧
 Later
 (elimP w_1 False fun (k84 k85 : Nat) =>
 ∃ (p86 : Option Addr),
 rd m79 k84 k85 = some (Value.pointer p86) ∧
 elimP p86 False fun (k87 k88 : Nat) =>
 isC m79 k87 = true ∧
 ∃ (p89 : Option Addr),
 rd m79 k87 (k88 + 0) = some (Value.pointer p89) ∧
 ∃ (x90 : Int),
 ∃ (m91 : Mem),
 ∃ (k92 : Nat),
 (Wc Try.prog fSpreadstateleast [Value.pointer p89] m79 k80 fun (v93 : Value) (m94 : Mem) (k95 : Nat) => v93 = Value.int IntKind.i64 x90 ∧ m94 = m91 ∧ k95 = k92) ∧
 Later
 (memLet ((Tr.set m91 (k44 + 10) (AObj.cells none tInt 1 [Value.int IntKind.i64 0])).set (k44 + 11) (AObj.cells none tInt 1 [Value.int IntKind.i64 0])) fun (m96 : Mem) =>
 ∃ (m97 : Mem),
 storeCs m96 (k44 + 10) 0 [Value.int IntKind.i64 x78] = some m97 ∧
 ∃ (m98 : Mem),
 storeCs m97 (k44 + 11) 0 [Value.int IntKind.i64 x90] = some m98 ∧
 (∃ (p99 : Option Addr), rd m43 k87 (k88 + 0) = some (Value.pointer p99) ∧ Value.pointer p99 = Value.pointer p89) ∧
 (isC m43 k87 = true ∧ Value.pointer (some { block := k87, off := k88 + 0 }) = Value.pointer (some { block := k87, off := k88 + 0 })) ∧
 (elimP w_1 False fun (k100 k101 : Nat) => ∃ (p102 : Option Addr), rd m43 k100 k101 = some (Value.pointer p102) ∧ Value.pointer p102 = Value.pointer p86) ∧
 k44 + 14 ≤ k80 ∧
 k44 + 14 ≤ k92 ∧
 k44 + 14 ≤ k92 ∧
 k44 + 14 ≤ k92 ∧
 Tr.get m79 (k44 + 10) = none ∧
 Tr.get m79 (k44 + 11) = none ∧
 Tr.get m91 (k44 + 10) = none ∧
 Tr.get m91 (k44 + 11) = none ∧
 elimP w_1 False fun (k103 k104 : Nat) =>
 ∃ (p105 : Option Addr),
 rd m98 k103 k104 = some (Value.pointer p105) ∧
 elimP p105 False fun (k106 k107 : Nat) =>
 isC m98 k106 = true ∧
 ∃ (p108 : Option Addr),
 rd m98 k106 (k107 + 0) = some (Value.pointer p108) ∧
 elimP p108 False fun (k109 k110 : Nat) =>
 isC m98 k109 = true ∧
 ∃ (p111 : Option Addr),
 ∃ (k112 : Nat),
 ∃ (k113 : Nat),
 rd m98 k109 (k110 + 1) = some (Value.slice p111 k112 k113) ∧
 Wc Try.prog fSlicesBackwardLintint [Value.slice p111 k112 k113] m98 k92 fun (v114 : Value) (m115 : Mem) (k116 : Nat) =>
 ∃ (y117 : FuncId),
 ∃ (l118 : List Value),
 ∃ (l119 : List Value),
 v114 = Value.func (Fn.func y117) { toList := l118 } { toList := l119 } ∧
 Later
 (memLet ((Tr.set m115 k116 (AObj.deferred (some []))).set (k116 + 1) (loopO fSpreadWheelSet 179 [(2, Value.pointer w_1), (11, Value.pointer (some { block := k44 + 10, off := 0 })), (12, Value.pointer (some { block := k44 + 11, off := 0 })), (163, Value.func (Fn.func y117) { toList := l118 } { toList := l119 })] LoopState.ready none (pt Try.prog fSpreadWheelSet [1, 1, 1, 1, 1, 1, 1, 1, 0, 0, 0, 1, 0, 1, 1, 0]) k116)) fun (m120 : Mem) =>
 Wc Try.prog y117 (l118 ++ [Value.func (Fn.yield (k116 + 1)) { toList := [] } { toList := [] }] ++ l119) m120 (k116 + 2) fun (v121 : Value) (m122 : Mem) (k123 : Nat) =>
 ∃ (y124 : LoopState),
 ∃ (p125 : Option Code),
 Tr.get m122 (k116 + 1) = some (loopO fSpreadWheelSet 179 [(2, Value.pointer w_1), (11, Value.pointer (some { block := k44 + 10, off := 0 })), (12, Value.pointer (some { block := k44 + 11, off := 0 })), (163, Value.func (Fn.func y117) { toList := l118 } { toList := l119 })] y124 p125 (pt Try.prog fSpreadWheelSet [1, 1, 1, 1, 1, 1, 1, 1, 0, 0, 0, 1, 0, 1, 1, 0]) k116) ∧
 isBusy y124 = false ∧
 Later
 (memLet (Tr.set m122 (k116 + 1) (loopO fSpreadWheelSet 179 [(2, Value.pointer w_1), (11, Value.pointer (some { block := k44 + 10, off := 0 })), (12, Value.pointer (some { block := k44 + 11, off := 0 })), (163, Value.func (Fn.func y117) { toList := l118 } { toList := l119 })] LoopState.exhausted p125 (pt Try.prog fSpreadWheelSet [1, 1, 1, 1, 1, 1, 1, 1, 0, 0, 0, 1, 0, 1, 1, 0]) k116)) fun (m126 : Mem) =>
 elimJ p125 (W Try.prog { fn := fSpreadWheelSet, nt := 179, slots := [(2, Value.pointer w_1)], todo := pt Try.prog fSpreadWheelSet [1, 1, 1, 1, 1, 1, 1, 1, 0, 0, 0], defers := { target := Target.collected k116, args := { toList := [] } } :: ds } m126 k123 Q) (∃ (l127 : List Nat), ({ target := Target.collected k116, args := { toList := [] } } :: ds = List.map collD l127 ∧ List.Pairwise (fun (x1 x2 : Nat) => x1 ≠ x2) l127 ∧ ∀ (k128 : Nat), List.Mem k128 l127 → Tr.get m126 k128 = some (AObj.deferred (some []))) ∧ False) fun (y130 : Code) =>
 y130 = Code.exit 9 ∧ W Try.prog { fn := fSpreadWheelSet, nt := 179, slots := [(2, Value.pointer w_1)], todo := pt Try.prog fSpreadWheelSet [1, 1, 1, 1, 1, 1, 1, 1, 0, 0, 0], defers := { target := Target.collected k116, args := { toList := [] } } :: ds } m126 k123 Q ∨ False))))
 else ∃ (l131 : List Nat), (ds = List.map collD l131 ∧ List.Pairwise (fun (x1 x2 : Nat) => x1 ≠ x2) l131 ∧ ∀ (k132 : Nat), List.Mem k132 l131 → Tr.get m43 k132 = some (AObj.deferred (some []))) ∧ memLet (clrAll l131 m43) fun (m133 : Mem) => Q (Value.int IntKind.i64 0) m133 k44))))) := by kernel_rfl

theorem xSpreadWheelSetr5 (m : Mem) (n : Nat) (Q : Value → Mem → Nat → Prop) (w_1 : Option Addr) (from' : Nat) (to : Nat) (t163 : Value) (Y : Nat) (t164v : Int) (t165v : Int) :
 xF (evX Try.prog xcfg 400) (roundF fSpreadWheelSet 179 [(2, Value.pointer w_1), (11, Value.pointer (some { block := from', off := 0 })), (12, Value.pointer (some { block := to, off := 0 })), (163, t163)] (pt Try.prog fSpreadWheelSet [1, 1, 1, 1, 1, 1, 1, 1, 0, 0, 0, 1, 0, 1, 1, 0]) [Value.int IntKind.i64 t164v, Value.int IntKind.i64 t165v] Y) m n Q =
 (∃ (y0 : AObj),
 Tr.get m Y = some y0 ∧
 lpReady y0 = true ∧
 memLet (Tr.set m Y (lpBusy y0)) fun (m1 : Mem) =>
 ∃ (x2 : Int),
 rd m1 from' 0 = some (Value.int IntKind.i64 x2) ∧
 bif t165v == x2 then
 elimP w_1 False fun (k3 k4 : Nat) =>
 ∃ (p5 : Option Addr), rd m1 k3 k4 = some (Value.pointer p5) ∧ elimP p5 False fun (k6 k7 : Nat) => isC m1 k6 = true ∧ ∃ (p8 : Option Addr), rd m1 k6 (k7 + 0) = some (Value.pointer p8) ∧ elimP p8 False fun (k9 k10 : Nat) => isC m1 k9 = true ∧ ∃ (p11 : Option Addr), ∃ (k12 : Nat), ∃ (k13 : Nat), rd m1 k9 (k10 + 1) = some (Value.slice p11 k12 k13) ∧ ∃ (x14 : Int), rd m1 to 0 = some (Value.int IntKind.i64 x14) ∧ elimA p11 False fun (k15 k16 : Nat) (p17 : Option Nat) => (0 ≤ t164v ∧ t164v < (↑k12 : Int) ∧ liveAt m1 k15 = true ∧ (p17 ≠ none → 0 < k13)) ∧ ∃ (m18 : Mem), storeCs m1 k15 (offOf k16 p17 + t164v.toNat * 1) [Value.int IntKind.i64 x14] = some m18 ∧ n + 11 ≤ n + 11 ∧ ∃ (y19 : AObj), Tr.get m18 Y = some y19 ∧ isLp y19 = true ∧ memLet (Tr.set m18 Y (lpSet y19 LoopState.done (some (Code.exit 9)))) fun (m20 : Mem) => Q (Value.bool false) m20 (n + 11)
 else ∃ (y21 : AObj), Tr.get m1 Y = some y21 ∧ isLp y21 = true ∧ memLet (Tr.set m1 Y (lpSet y21 LoopState.ready none)) fun (m22 : Mem) => Q (Value.bool true) m22 n) := by kernel_rfl

/- 43 (*leafmesh/fib.state).find -/
theorem xFibstatefind (m : Mem) (n : Nat) (Q : Value → Mem → Nat → Prop) (s : Nat) (dst : Int) :
 Xc Try.prog xcfg 400 fFibstatefind [Value.pointer (some { block := s, off := 0 }), Value.int IntKind.u32 dst] m n Q =
 (isC m s = true ∧ ∃ (p0 : Option Addr), ∃ (k1 : Nat), ∃ (k2 : Nat), rd m s 3 = some (Value.slice p0 k1 k2) ∧ Wc Try.prog fSlicesBinarySearchFuncLfibentryfibentryapiIP [Value.slice p0 k1 k2, Value.int IntKind.u32 dst, Value.func (Fn.func fFibentrycompare) { toList := [] } { toList := [] }] m n fun (v3 : Value) (m4 : Mem) (k5 : Nat) => ∃ (x6 : Int), ∃ (b7 : Bool), v3 = Value.tuple { toList := [Value.int IntKind.i64 x6, Value.bool b7] } ∧ Later (Q (Value.tuple { toList := [Value.int IntKind.i64 x6, Value.bool b7] }) m4 k5)) := by kernel_rfl

/- 44 slices.Clone[[]int,int] -/
theorem xSlicesCloneLintint (m : Mem) (n : Nat) (Q : Value → Mem → Nat → Prop) (s_a : Option Addr) (s_l : Nat) (s_c : Nat) :
 Xc Try.prog xcfg 400 fSlicesCloneLintint [Value.slice s_a s_l s_c] m n Q =
 (elimA s_a (Q (Value.slice none 0 0) m n) fun (k0 k1 : Nat) (p2 : Option Nat) => ∃ (b3 : Bool), nilAt m k0 = some b3 ∧ bif b3 then Q (Value.slice none 0 0) m n else memLet (Tr.set m n (AObj.cells none tInt 1 [])) fun (m4 : Mem) => ∃ (p5 : Option Addr), ∃ (k6 : Nat), ∃ (k7 : Nat), ∃ (m8 : Mem), ∃ (k9 : Nat), appendA Try.prog m4 (n + 1) tLint tLint (Value.slice (some { block := n, off := 0 }) 0 0) (Value.slice s_a s_l s_c) = Eff.val (Value.slice p5 k6 k7) m8 k9 ∧ Q (Value.slice p5 k6 k7) m8 k9) := by kernel_rfl

/- 45 leafmesh/spf.valid -/
theorem xSpfvalid (m : Mem) (n : Nat) (Q : Value → Mem → Nat → Prop) (nodes : Int) (links_a : Option Addr) (links_l : Nat) (links_c : Nat) (up_a : Option Addr) (up_l : Nat) (up_c : Nat) (ends_a : Option Addr) (ends_l : Nat) (ends_c : Nat) :
 Xc Try.prog xcfg 400 fSpfvalid [Value.int IntKind.i64 nodes, Value.slice links_a links_l links_c, Value.slice up_a up_l up_c, Value.slice ends_a ends_l ends_c] m n Q =
 (memLet (Tr.set m n (AObj.cells none tInt 1 [Value.int IntKind.i64 nodes])) fun (m0 : Mem) =>
 memLet (Tr.set m0 (n + 1) (AObj.cells none tFuncintbool 1 [Value.nilFunc])) fun (m1 : Mem) =>
 ∃ (m2 : Mem),
 storeCs m1 (n + 1) 0 [Value.func (Fn.func fSpfvalid1) { toList := [] } { toList := [Value.pointer (some { block := n, off := 0 })] }] = some m2 ∧
 ∃ (x3 : Int), rd m2 n 0 = some (Value.int IntKind.i64 x3) ∧ bif decide (x3 < 1) then Q (Value.bool false) m2 (n + 1 + 1) else ∃ (x4 : Int), rd m2 n 0 = some (Value.int IntKind.i64 x4) ∧ bif decide (x4 > 32) then Q (Value.bool false) m2 (n + 1 + 1) else bif decide ((↑links_l : Int) > 128) then Q (Value.bool false) m2 (n + 1 + 1) else bif (↑up_l : Int) != (↑links_l : Int) then Q (Value.bool false) m2 (n + 1 + 1) else W Try.prog { fn := fSpfvalid, nt := 71, slots := [(3, Value.slice ends_a ends_l ends_c), (9, Value.pointer (some { block := n + 1, off := 0 })), (31, Value.slice links_a links_l links_c), (32, Value.int IntKind.i64 (↑links_l : Int)), (33, Value.int IntKind.i64 0)], todo := pt Try.prog fSpfvalid [1, 1, 1, 0, 1, 0, 0] } m2 (n + 1 + 1) Q) := by kernel_rfl

theorem xSpfvalidk0 (m : Mem) (n : Nat) (Q : Value → Mem → Nat → Prop) (links_a : Option Addr) (links_l : Nat) (links_c : Nat) (ends_a : Option Addr) (ends_l : Nat) (ends_c : Nat) (within : Nat) (t32 : Int) (t33 : Int) :
 xF (evX Try.prog xcfg 400) { fn := fSpfvalid, nt := 71, slots := [(3, Value.slice ends_a ends_l ends_c), (9, Value.pointer (some { block := within, off := 0 })), (31, Value.slice links_a links_l links_c), (32, Value.int IntKind.i64 t32), (33, Value.int IntKind.i64 t33)], todo := pt Try.prog fSpfvalid [1, 1, 1, 0, 1, 0, 0] } m n Q =
 (bif decide (t33 < t32) then
 elimA links_a False fun (k0 k1 : Nat) (p2 : Option Nat) =>
 (0 ≤ t33 ∧ t33 < (↑links_l : Int) ∧ liveAt m k0 = true ∧ (p2 ≠ none → 0 < links_c)) ∧
 ∃ (x3 : Int),
 ∃ (x4 : Int),
 ∃ (x5 : Int),
 rds m k0 (offOf k1 p2 + t33.toNat * 3) 3 = some [Value.int IntKind.i64 x3, Value.int IntKind.i64 x4, Value.int IntKind.i64 x5] ∧
 memLet (Tr.set m n (AObj.cells none tApiLink 3 [Value.int IntKind.i64 0, Value.int IntKind.i64 0, Value.int IntKind.i64 0])) fun (m6 : Mem) =>
 ∃ (m7 : Mem),
 storeCs m6 n 0 [Value.int IntKind.i64 x3, Value.int IntKind.i64 x4, Value.int IntKind.i64 x5] = some m7 ∧
 ∃ (y8 : FuncId),
 ∃ (l9 : List Value),
 ∃ (l10 : List Value),
 rd m7 within 0 = some (Value.func (Fn.func y8) { toList := l9 } { toList := l10 }) ∧
 isC m7 n = true ∧
 ∃ (x11 : Int),
 rd m7 n 0 = some (Value.int IntKind.i64 x11) ∧
 Wc Try.prog y8 (l9 ++ [Value.int IntKind.i64 x11] ++ l10) m7 (n + 1) fun (v12 : Value) (m13 : Mem) (k14 : Nat) =>
 ∃ (b15 : Bool),
 v12 = Value.bool b15 ∧
 Later
 (bif !b15 then Q (Value.bool false) m13 k14
 else
 ∃ (y16 : FuncId),
 ∃ (l17 : List Value),
 ∃ (l18 : List Value),
 rd m13 within 0 = some (Value.func (Fn.func y16) { toList := l17 } { toList := l18 }) ∧
 isC m13 n = true ∧
 ∃ (x19 : Int),
 rd m13 n 1 = some (Value.int IntKind.i64 x19) ∧
 Wc Try.prog y16 (l17 ++ [Value.int IntKind.i64 x19] ++ l18) m13 k14 fun (v20 : Value) (m21 : Mem) (k22 : Nat) =>
 ∃ (b23 : Bool),
 v20 = Value.bool b23 ∧
 Later
 (bif !b23 then Q (Value.bool false) m21 k22
 else
 isC m21 n = true ∧
 ∃ (x24 : Int),
 rd m21 n 0 = some (Value.int IntKind.i64 x24) ∧ isC m21 n = true ∧ ∃ (x25 : Int), rd m21 n 1 = some (Value.int IntKind.i64 x25) ∧ bif x24 == x25 then Q (Value.bool false) m21 k22 else isC m21 n = true ∧ ∃ (x26 : Int), rd m21 n 2 = some (Value.int IntKind.i64 x26) ∧ bif decide (x26 < 1) then Q (Value.bool false) m21 k22 else isC m21 n = true ∧ ∃ (x27 : Int), rd m21 n 2 = some (Value.int IntKind.i64 x27) ∧ bif decide (x27 > 1000) then Q (Value.bool false) m21 k22 else W Try.prog { fn := fSpfvalid, nt := 71, slots := [(3, Value.slice ends_a ends_l ends_c), (9, Value.pointer (some { block := within, off := 0 })), (31, Value.slice links_a links_l links_c), (32, Value.int IntKind.i64 t32), (33, Value.int IntKind.i64 (IntKind.i64.wrap (t33 + 1)))], todo := pt Try.prog fSpfvalid [1, 1, 1, 0, 1, 0, 0] } m21 k22 Q))
 else Wc Try.prog fSlicesContainsFuncLintint [Value.slice ends_a ends_l ends_c, Value.func (Fn.func fSpfvalid2) { toList := [] } { toList := [Value.pointer (some { block := within, off := 0 })] }] m n fun (v28 : Value) (m29 : Mem) (k30 : Nat) => ∃ (b31 : Bool), v28 = Value.bool b31 ∧ Later (Q (Value.bool !b31) m29 k30)) := by kernel_rfl

/- 46 slices.Repeat[[]int,int] -/
theorem xSlicesRepeatLintint (m : Mem) (n : Nat) (Q : Value → Mem → Nat → Prop) (x_a : Option Addr) (x_l : Nat) (x_c : Nat) (count : Int) :
 Xc Try.prog xcfg 400 fSlicesRepeatLintint [Value.slice x_a x_l x_c, Value.int IntKind.i64 count] m n Q =
 (bif decide (count < 0) then False else W Try.prog { fn := fSlicesRepeatLintint, nt := 48, slots := [(0, Value.slice x_a x_l x_c), (1, Value.int IntKind.i64 count)], todo := pt Try.prog fSlicesRepeatLintint [1, 1, 0] } m n Q) := by kernel_rfl

theorem xSlicesRepeatLintintk0 (m : Mem) (n : Nat) (Q : Value → Mem → Nat → Prop) (x_a : Option Addr) (x_l : Nat) (x_c : Nat) (count : Int) :
 xF (ev1 Try.prog xcfg 400) { fn := fSlicesRepeatLintint, nt := 48, slots := [(0, Value.slice x_a x_l x_c), (1, Value.int IntKind.i64 count)], todo := pt Try.prog fSlicesRepeatLintint [1, 1, 0] } m n Q =
 (Wc Try.prog fMathbitsMul [Value.int IntKind.u64 (IntKind.u64.wrap (↑x_l : Int)), Value.int IntKind.u64 (IntKind.u64.wrap count)] m n fun (v0 : Value) (m1 : Mem) (k2 : Nat) => ∃ (x3 : Int), ∃ (x4 : Int), v0 = Value.tuple { toList := [Value.int IntKind.u64 x3, Value.int IntKind.u64 x4] } ∧ Later (bif decide (x3 > 0) then False else bif decide (x4 > 9223372036854775807) then False else W Try.prog { fn := fSlicesRepeatLintint, nt := 48, slots := [(0, Value.slice x_a x_l x_c), (6, Value.int IntKind.u64 x4)], todo := pt Try.prog fSlicesRepeatLintint [1, 1, 1, 1, 0] } m1 k2 Q)) := by kernel_rfl

theorem xSlicesRepeatLintintk1 (m : Mem) (n : Nat) (Q : Value → Mem → Nat → Prop) (x_a : Option Addr) (x_l : Nat) (x_c : Nat) (lo : Int) :
 xF (ev1 Try.prog xcfg 400) { fn := fSlicesRepeatLintint, nt := 48, slots := [(0, Value.slice x_a x_l x_c), (6, Value.int IntKind.u64 lo)], todo := pt Try.prog fSlicesRepeatLintint [1, 1, 1, 1, 0] } m n Q =
 ((0 ≤ IntKind.i64.wrap lo ∧ IntKind.i64.wrap lo ≤ IntKind.i64.wrap lo ∧ 9 * IntKind.i64.wrap lo ≤ 281474976710656) ∧ memLet (Tr.set m n (AObj.cells none tInt 1 (List.replicate (IntKind.i64.wrap lo).toNat [Value.int IntKind.i64 0]).flatten)) fun (m0 : Mem) => ∃ (x1 : Int), ∃ (m2 : Mem), copyV Try.prog m0 (n + 1) tLint (some { block := n, off := 0 }) (IntKind.i64.wrap lo).toNat (IntKind.i64.wrap lo).toNat x_a x_l x_c = Eff.val (Value.int IntKind.i64 x1) m2 (n + 1) ∧ W Try.prog { fn := fSlicesRepeatLintint, nt := 48, slots := [(7, Value.slice (some { block := n, off := 0 }) (IntKind.i64.wrap lo).toNat (IntKind.i64.wrap lo).toNat), (8, Value.int IntKind.i64 x1)], todo := pt Try.prog fSlicesRepeatLintint [1, 1, 1, 1, 1, 1, 0, 0, 0] } m2 (n + 1) Q) := by kernel_rfl

theorem xSlicesRepeatLintintk2 (m : Mem) (n : Nat) (Q : Value → Mem → Nat → Prop) (newslice_a : Option Addr) (newslice_l : Nat) (newslice_c : Nat) (n' : Int) :
 xF (evX Try.prog xcfg 400) { fn := fSlicesRepeatLintint, nt := 48, slots := [(7, Value.slice newslice_a newslice_l newslice_c), (8, Value.int IntKind.i64 n')], todo := pt Try.prog fSlicesRepeatLintint [1, 1, 1, 1, 1, 1, 0, 0, 0] } m n Q =
 (bif decide (n' < (↑newslice_l : Int)) then
 elimA newslice_a
 ((0 ≤ n' ∧ n' ≤ (↑newslice_l : Int)) ∧
 elimA newslice_a ((0 ≤ n' ∧ n' ≤ (↑newslice_c : Int)) ∧ ∃ (x0 : Int), ∃ (m1 : Mem), copyV Try.prog m (n + 10) tLint none (newslice_l - n'.toNat) (newslice_c - n'.toNat) none (n'.toNat - 0) (newslice_c - 0) = Eff.val (Value.int IntKind.i64 x0) m1 (n + 10) ∧ n + 10 ≤ n + 10 ∧ W Try.prog { fn := fSlicesRepeatLintint, nt := 48, slots := [(7, Value.slice newslice_a newslice_l newslice_c), (8, Value.int IntKind.i64 (IntKind.i64.wrap (n' + x0)))], todo := pt Try.prog fSlicesRepeatLintint [1, 1, 1, 1, 1, 1, 0, 0, 0] } m1 (n + 10) Q) fun (k2 k3 : Nat) (p4 : Option Nat) =>
 (0 ≤ n' ∧ n' ≤ (↑newslice_c : Int)) ∧
 elimM p4 (∃ (x5 : Int), ∃ (m6 : Mem), copyV Try.prog m (n + 10) tLint none (newslice_l - n'.toNat) (newslice_c - n'.toNat) (some { block := k2, off := if newslice_c = 0 then k3 else k3 + 0 }) (n'.toNat - 0) (newslice_c - 0) = Eff.val (Value.int IntKind.i64 x5) m6 (n + 10) ∧ n + 10 ≤ n + 10 ∧ W Try.prog { fn := fSlicesRepeatLintint, nt := 48, slots := [(7, Value.slice newslice_a newslice_l newslice_c), (8, Value.int IntKind.i64 (IntKind.i64.wrap (n' + x5)))], todo := pt Try.prog fSlicesRepeatLintint [1, 1, 1, 1, 1, 1, 0, 0, 0] } m6 (n + 10) Q) fun (k7 : Nat) =>
 (0 ≤ newslice_c ∧ 0 < newslice_c) ∧ ∃ (x8 : Int), ∃ (m9 : Mem), copyV Try.prog m (n + 10) tLint none (newslice_l - n'.toNat) (newslice_c - n'.toNat) (some { block := k2, off := if newslice_c = 0 then k7 else k7 + 0, spot := some (k7 + 0) }) (n'.toNat - 0) (newslice_c - 0) = Eff.val (Value.int IntKind.i64 x8) m9 (n + 10) ∧ n + 10 ≤ n + 10 ∧ W Try.prog { fn := fSlicesRepeatLintint, nt := 48, slots := [(7, Value.slice newslice_a newslice_l newslice_c), (8, Value.int IntKind.i64 (IntKind.i64.wrap (n' + x8)))], todo := pt Try.prog fSlicesRepeatLintint [1, 1, 1, 1, 1, 1, 0, 0, 0] } m9 (n + 10) Q)
 fun (k10 k11 : Nat) (p12 : Option Nat) =>
 (0 ≤ n' ∧ n' ≤ (↑newslice_l : Int)) ∧
 elimM p12
 (elimA newslice_a ((0 ≤ n' ∧ n' ≤ (↑newslice_c : Int)) ∧ ∃ (x13 : Int), ∃ (m14 : Mem), copyV Try.prog m (n + 10) tLint (some { block := k10, off := if newslice_c = n'.toNat then k11 else k11 + n'.toNat * 1 }) (newslice_l - n'.toNat) (newslice_c - n'.toNat) none (n'.toNat - 0) (newslice_c - 0) = Eff.val (Value.int IntKind.i64 x13) m14 (n + 10) ∧ n + 10 ≤ n + 10 ∧ W Try.prog { fn := fSlicesRepeatLintint, nt := 48, slots := [(7, Value.slice newslice_a newslice_l newslice_c), (8, Value.int IntKind.i64 (IntKind.i64.wrap (n' + x13)))], todo := pt Try.prog fSlicesRepeatLintint [1, 1, 1, 1, 1, 1, 0, 0, 0] } m14 (n + 10) Q) fun (k15 k16 : Nat) (p17 : Option Nat) =>
 (0 ≤ n' ∧ n' ≤ (↑newslice_c : Int)) ∧
 elimM p17 (∃ (x18 : Int), ∃ (m19 : Mem), copyV Try.prog m (n + 10) tLint (some { block := k10, off := if newslice_c = n'.toNat then k11 else k11 + n'.toNat * 1 }) (newslice_l - n'.toNat) (newslice_c - n'.toNat) (some { block := k15, off := if newslice_c = 0 then k16 else k16 + 0 }) (n'.toNat - 0) (newslice_c - 0) = Eff.val (Value.int IntKind.i64 x18) m19 (n + 10) ∧ n + 10 ≤ n + 10 ∧ W Try.prog { fn := fSlicesRepeatLintint, nt := 48, slots := [(7, Value.slice newslice_a newslice_l newslice_c), (8, Value.int IntKind.i64 (IntKind.i64.wrap (n' + x18)))], todo := pt Try.prog fSlicesRepeatLintint [1, 1, 1, 1, 1, 1, 0, 0, 0] } m19 (n + 10) Q) fun (k20 : Nat) =>
 (0 ≤ newslice_c ∧ 0 < newslice_c) ∧ ∃ (x21 : Int), ∃ (m22 : Mem), copyV Try.prog m (n + 10) tLint (some { block := k10, off := if newslice_c = n'.toNat then k11 else k11 + n'.toNat * 1 }) (newslice_l - n'.toNat) (newslice_c - n'.toNat) (some { block := k15, off := if newslice_c = 0 then k20 else k20 + 0, spot := some (k20 + 0) }) (n'.toNat - 0) (newslice_c - 0) = Eff.val (Value.int IntKind.i64 x21) m22 (n + 10) ∧ n + 10 ≤ n + 10 ∧ W Try.prog { fn := fSlicesRepeatLintint, nt := 48, slots := [(7, Value.slice newslice_a newslice_l newslice_c), (8, Value.int IntKind.i64 (IntKind.i64.wrap (n' + x21)))], todo := pt Try.prog fSlicesRepeatLintint [1, 1, 1, 1, 1, 1, 0, 0, 0] } m22 (n + 10) Q)
 fun (k23 : Nat) =>
 (n'.toNat ≤ newslice_c ∧ 0 < newslice_c) ∧
 elimA newslice_a ((0 ≤ n' ∧ n' ≤ (↑newslice_c : Int)) ∧ ∃ (x24 : Int), ∃ (m25 : Mem), copyV Try.prog m (n + 10) tLint (some { block := k10, off := if newslice_c = n'.toNat then k23 else k23 + n'.toNat * 1, spot := some (k23 + n'.toNat * 1) }) (newslice_l - n'.toNat) (newslice_c - n'.toNat) none (n'.toNat - 0) (newslice_c - 0) = Eff.val (Value.int IntKind.i64 x24) m25 (n + 10) ∧ n + 10 ≤ n + 10 ∧ W Try.prog { fn := fSlicesRepeatLintint, nt := 48, slots := [(7, Value.slice newslice_a newslice_l newslice_c), (8, Value.int IntKind.i64 (IntKind.i64.wrap (n' + x24)))], todo := pt Try.prog fSlicesRepeatLintint [1, 1, 1, 1, 1, 1, 0, 0, 0] } m25 (n + 10) Q) fun (k26 k27 : Nat) (p28 : Option Nat) =>
 (0 ≤ n' ∧ n' ≤ (↑newslice_c : Int)) ∧
 elimM p28 (∃ (x29 : Int), ∃ (m30 : Mem), copyV Try.prog m (n + 10) tLint (some { block := k10, off := if newslice_c = n'.toNat then k23 else k23 + n'.toNat * 1, spot := some (k23 + n'.toNat * 1) }) (newslice_l - n'.toNat) (newslice_c - n'.toNat) (some { block := k26, off := if newslice_c = 0 then k27 else k27 + 0 }) (n'.toNat - 0) (newslice_c - 0) = Eff.val (Value.int IntKind.i64 x29) m30 (n + 10) ∧ n + 10 ≤ n + 10 ∧ W Try.prog { fn := fSlicesRepeatLintint, nt := 48, slots := [(7, Value.slice newslice_a newslice_l newslice_c), (8, Value.int IntKind.i64 (IntKind.i64.wrap (n' + x29)))], todo := pt Try.prog fSlicesRepeatLintint [1, 1, 1, 1, 1, 1, 0, 0, 0] } m30 (n + 10) Q) fun (k31 : Nat) =>
 (0 ≤ newslice_c ∧ 0 < newslice_c) ∧ ∃ (x32 : Int), ∃ (m33 : Mem), copyV Try.prog m (n + 10) tLint (some { block := k10, off := if newslice_c = n'.toNat then k23 else k23 + n'.toNat * 1, spot := some (k23 + n'.toNat * 1) }) (newslice_l - n'.toNat) (newslice_c - n'.toNat) (some { block := k26, off := if newslice_c = 0 then k31 else k31 + 0, spot := some (k31 + 0) }) (n'.toNat - 0) (newslice_c - 0) = Eff.val (Value.int IntKind.i64 x32) m33 (n + 10) ∧ n + 10 ≤ n + 10 ∧ W Try.prog { fn := fSlicesRepeatLintint, nt := 48, slots := [(7, Value.slice newslice_a newslice_l newslice_c), (8, Value.int IntKind.i64 (IntKind.i64.wrap (n' + x32)))], todo := pt Try.prog fSlicesRepeatLintint [1, 1, 1, 1, 1, 1, 0, 0, 0] } m33 (n + 10) Q
 else Q (Value.slice newslice_a newslice_l newslice_c) m n) := by kernel_rfl

/- 47 (leafmesh/spf.queue).Len -/
theorem xSpfqueueLen (m : Mem) (n : Nat) (Q : Value → Mem → Nat → Prop) (q_a : Option Addr) (q_l : Nat) (q_c : Nat) :
 Xc Try.prog xcfg 400 fSpfqueueLen [Value.slice q_a q_l q_c] m n Q =
 (Q (Value.int IntKind.i64 (↑q_l : Int)) m n) := by kernel_rfl


end Go.Proofs.Ytiomjekkmjinbaa
