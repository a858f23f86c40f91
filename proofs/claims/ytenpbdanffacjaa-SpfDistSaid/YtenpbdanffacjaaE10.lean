/- E10: what parts of the program compute; helper of the claim. -/
import Derived.Test.YtenpbdanffacjaaProg
import Derived.KernelRfl
import Derived.Test.YtenpbdanffacjaaAb33
namespace Go.Proofs.Ytenpbdanffacjaa
open Go Go.Ab
set_option maxRecDepth 100000
abbrev fLaw10SpfDist : Nat := 3
abbrev fLaw10SpfNext : Nat := 4
abbrev fLaw10SpfKnown : Nat := 5
abbrev fLaw10SpfBellman : Nat := 6
abbrev fLaw10SpfTriangle : Nat := 7
abbrev fLaw10SpfWalk : Nat := 8
abbrev fLaw10SpfCounts : Nat := 9
abbrev fLaw10SpfCut : Nat := 10
abbrev fLaw10SpfTree : Nat := 11
abbrev fLaw10awake : Nat := 12
abbrev fKitOwnapiLink : Nat := 13
abbrev fKitOwnbool : Nat := 14
abbrev fKitSameint : Nat := 15
abbrev fSpfDist : Nat := 16
abbrev fRef10Dist : Nat := 17
abbrev fSpfParents : Nat := 18
abbrev fRef10Parents : Nat := 19
abbrev fSpfPath : Nat := 20
abbrev fRef10Path : Nat := 21
abbrev fKitSameapiLink : Nat := 22
abbrev fKitSamebool : Nat := 23
abbrev fSpfNext : Nat := 24
abbrev fRef10Next : Nat := 25
abbrev fSpfPaths : Nat := 26
abbrev fRef10Paths : Nat := 27
abbrev fLaw10five : Nat := 28
abbrev fLaw10Netdist : Nat := 29
abbrev fLaw10Netnext : Nat := 30
abbrev fLaw10Netpaths : Nat := 31
abbrev fLaw10Netparents : Nat := 32
abbrev fLaw10Netpath : Nat := 33
abbrev fLaw10valid : Nat := 34
abbrev fKitPick : Nat := 35
abbrev fLaw10other : Nat := 36
abbrev fSpfvalid : Nat := 37
abbrev fSlicesRepeatLintint : Nat := 38
abbrev fSpfqueueLen : Nat := 39
abbrev fContainerheapPop : Nat := 40
abbrev fSpffilterapiLink : Nat := 41
abbrev fSpfother : Nat := 42
abbrev fContainerheapPush : Nat := 43
abbrev fRef10Valid : Nat := 44
abbrev fSlicesReverseLintint : Nat := 45
abbrev fRef10Other : Nat := 46
abbrev fSpfPaths1 : Nat := 47
abbrev fKitHasint : Nat := 48
abbrev fSpfvalid1 : Nat := 49
abbrev fSlicesContainsFuncLintint : Nat := 50
abbrev fSpfvalid2 : Nat := 51
abbrev fMathbitsMul : Nat := 52
abbrev fContainerheapdown : Nat := 53
abbrev fSpffilterapiLink1 : Nat := 54
abbrev fContainerheapup : Nat := 55
abbrev fRef09Valid : Nat := 56
abbrev fSlicesIndexFuncLintint : Nat := 57
abbrev fMathbitsMul32 : Nat := 58
abbrev fMathbitsMul64 : Nat := 59
abbrev fSpfqueueLess : Nat := 76
abbrev fSpfqueuePop : Nat := 77
abbrev fSpfqueuePush : Nat := 78
abbrev fSpfqueueSwap : Nat := 79
abbrev t : Nat := 0
abbrev tFunc : Nat := 1
abbrev tInt64 : Nat := 2
abbrev tInt : Nat := 3
abbrev tBool : Nat := 4
abbrev tUint8 : Nat := 5
abbrev tAbiBoundsErrorCode : Nat := 6
abbrev tStructxint64yintsignedboolcodeabiBoundsErrorCode : Nat := 7
abbrev tRuntimeboundsError : Nat := 8
abbrev tString : Nat := 9
abbrev tRuntimeerrorString : Nat := 10
abbrev tRuntimeplainError : Nat := 11
abbrev tUintptr : Nat := 12
abbrev tStructmsgstringaddruintptr : Nat := 13
abbrev tRuntimeerrorAddressString : Nat := 14
abbrev tPruntimeTypeAssertionError : Nat := 15
abbrev tPruntimePanicNilError : Nat := 16
abbrev tPabiType : Nat := 17
abbrev tStructtypPabiType : Nat := 18
abbrev tMapsunhashableTypeError : Nat := 19
abbrev tInterface : Nat := 20
abbrev tInt32 : Nat := 21
abbrev tLapiLink : Nat := 22
abbrev tLbool : Nat := 23
abbrev tFuncbool : Nat := 24
abbrev tFuncLapiLinkLapiLink : Nat := 25
abbrev tStructAintBintCostint : Nat := 26
abbrev tApiLink : Nat := 27
abbrev tFuncLboolLbool : Nat := 28
abbrev tFuncLintLintbool : Nat := 29
abbrev tLint : Nat := 30
abbrev tFuncintLapiLinkLboolintLint : Nat := 31
abbrev tFuncintLapiLinkLboolintintLint : Nat := 32
abbrev tFuncLapiLinkLapiLinkbool : Nat := 33
abbrev tFuncLboolLboolbool : Nat := 34
abbrev tFuncintLapiLinkLboolintintbool : Nat := 35
abbrev tFuncintLapiLinkLboolintintint : Nat := 36
abbrev tStructNodesintLinksLapiLinkUpLbool : Nat := 37
abbrev tLaw10Net : Nat := 38
abbrev tFuncintlaw10Net : Nat := 39
abbrev tFuncintLint : Nat := 40
abbrev tFuncintintLint : Nat := 41
abbrev tFuncintintint : Nat := 42
abbrev tFunclaw10Netbool : Nat := 43
abbrev tFunclaw10Netintbool : Nat := 44
abbrev tFunclaw10Netintintintbool : Nat := 45
abbrev tFuncapiLinkintint : Nat := 46
abbrev tFunclaw10NetintintLintbool : Nat := 47
abbrev tFunclaw10Netintintbool : Nat := 48
abbrev tFuncintLapiLinkLboolintbool : Nat := 49
abbrev tFuncLintintLint : Nat := 50
abbrev tPspfqueue : Nat := 51
abbrev tStructnodeintdistint : Nat := 52
abbrev tSpffar : Nat := 53
abbrev tLspffar : Nat := 54
abbrev tSpfqueue : Nat := 55
abbrev tFuncint : Nat := 56
abbrev tFuncheapInterfaceinterface : Nat := 57
abbrev tFuncfuncintapiLinkbool : Nat := 58
abbrev tIterSeq2intapiLink : Nat := 59
abbrev tFuncLapiLinkLbooliterSeq2intapiLink : Nat := 60
abbrev tFuncheapInterfaceinterfacev1 : Nat := 61
abbrev tFuncintLapiLinkLboolintboolv1 : Nat := 62
abbrev tFuncLint : Nat := 63
abbrev tIntbool : Nat := 64
abbrev tFuncapiLinkintintbool : Nat := 65
abbrev tMapintint : Nat := 66
abbrev tFuncintint : Nat := 67
abbrev tFuncLintintbool : Nat := 68
abbrev tFuncintbool : Nat := 69
abbrev tFuncLintfuncintboolbool : Nat := 70
abbrev tUint : Nat := 71
abbrev tUintuint : Nat := 72
abbrev tFuncuintuintuintuint : Nat := 73
abbrev tInterfaceLenintLessintintboolPopinterfacePushinterfaceSwapintint : Nat := 74
abbrev tHeapInterface : Nat := 75
abbrev tFuncintintv1 : Nat := 76
abbrev tFuncheapInterfaceintintbool : Nat := 77
abbrev tFuncinterface : Nat := 78
abbrev tFuncintapiLinkbool : Nat := 79
abbrev tFuncinterfacev1 : Nat := 80
abbrev tFuncheapInterfaceint : Nat := 81
abbrev tApiErrno : Nat := 82
abbrev tFuncintLapiLinkapiErrno : Nat := 83
abbrev tFuncLintfuncintboolint : Nat := 84
abbrev tUint32 : Nat := 85
abbrev tUint32uint32 : Nat := 86
abbrev tFuncuint32uint32uint32uint32 : Nat := 87
abbrev tUint64 : Nat := 88
abbrev tUint64uint64 : Nat := 89
abbrev tFuncuint64uint64uint64uint64 : Nat := 90
abbrev tFuncintintbool : Nat := 91
abbrev tFuncstring : Nat := 92
abbrev tStructinterfacePabiTypeconcretePabiTypeassertedPabiTypemissingMethodstring : Nat := 93
abbrev tRuntimeTypeAssertionError : Nat := 94
abbrev t0PruntimePanicNilError : Nat := 95
abbrev tStruct0PruntimePanicNilError : Nat := 96
abbrev tRuntimePanicNilError : Nat := 97
abbrev tAbiTFlag : Nat := 98
abbrev tAbiKind : Nat := 99
abbrev tFuncunsafePointerunsafePointerbool : Nat := 100
abbrev tPuint8 : Nat := 101
abbrev tAbiNameOff : Nat := 102
abbrev tAbiTypeOff : Nat := 103
abbrev tStructSizeuintptrPtrBytesuintptrHashuint32TFlagabiTFlagAlignuint8FieldAlignuint8KindabiKindEqualfuncunsafePointerunsafePointerboolGCDataPuint8StrabiNameOffPtrToThisabiTypeOff : Nat := 104
abbrev tAbiType : Nat := 105
abbrev tUnsafePointer : Nat := 106
noncomputable def xcfg : Cfg := mkCfgD [] [(3, [(0, [0, 1, 2, 3, 4]), (1, [0, 1, 2, 3, 4, 21]), (2, [10]), (3, [0, 1, 2, 3, 4, 11, 12]), (4, [1, 2, 11, 12, 13]), (5, [10])]), (4, [(0, [0, 1, 2, 3, 4]), (1, [0, 1, 2, 3, 4, 21]), (2, [10]), (3, [0, 1, 2, 3, 4, 11, 12]), (4, [1, 2, 11, 12, 13]), (5, [10])]), (5, [(0, []), (1, [1, 2, 3]), (2, [1, 2, 3, 4]), (3, [1, 3, 4, 5]), (4, [1, 4, 5, 6]), (5, [1, 4, 5, 6, 7, 8]), (6, [1, 4, 5, 6, 7, 8]), (7, [1, 4, 5, 6, 7, 8]), (8, [0]), (2000002, [1, 2, 3]), (2000003, [1, 2, 3, 4]), (2000004, [1, 3, 4, 5]), (2000005, [1, 4, 5, 6]), (2000008, [1, 4, 5, 6, 7, 8])]), (6, [(0, [1, 2]), (1, [1, 2, 5]), (2, [1, 2, 5, 16]), (3, [4]), (4, [1, 2, 5]), (5, [1, 2, 5, 6]), (6, [1, 2, 5, 6, 36]), (7, [4]), (8, [1, 2, 5, 6, 7]), (9, [1, 2, 5, 6, 7, 8]), (10, [1, 2, 5, 6, 7, 8, 44]), (11, [1, 2, 5, 6, 7, 8]), (12, [1, 2, 5, 6, 7, 8, 9]), (13, [1, 2, 5, 6, 7, 8, 9, 57]), (14, [1, 2, 5, 6, 7, 8, 9, 10, 11]), (15, [1, 2, 5, 6, 7, 8, 9, 10, 11, 88]), (16, [4]), (17, [1, 2, 5, 6, 7, 8, 9, 10, 11, 98]), (18, [1, 2, 5, 6, 7, 8, 9, 10, 11]), (19, [1, 2, 5, 6, 7, 8, 9, 112]), (20, [1, 2, 5, 6, 7, 8]), (21, [1, 2, 5, 6, 7, 12]), (22, [1, 2, 5, 6, 7, 12, 120]), (23, [1, 2, 5, 6, 7, 12]), (24, [1, 2, 5, 6, 7, 12, 144]), (25, [4]), (26, [4]), (1000010, [1, 2, 5, 6, 7, 8]), (1000022, [1, 2, 5, 6, 7, 12]), (2000019, [1, 2, 5, 6, 7, 8, 9, 10, 11])]), (7, [(0, [1, 2, 3, 4]), (1, [1, 2, 3, 4, 9]), (2, [1, 2, 3, 4, 9, 15]), (3, [8]), (4, [1, 2, 3, 4, 9]), (5, [1, 2, 3, 4, 9, 10, 11]), (6, [2, 3, 9, 10, 11, 57]), (7, [8]), (8, [9, 92]), (9, [8]), (10, [8])]), (8, [(0, [1, 2, 3, 4]), (1, [1, 2, 3, 4, 9]), (2, [1, 2, 3, 4, 9, 21]), (3, [8]), (4, [1, 2, 3, 4, 9]), (5, [1, 2, 3, 4, 9, 10]), (6, [1, 2, 3, 4, 9, 10, 38]), (7, [8]), (8, [1, 2, 3, 4, 9, 10, 11]), (9, [1, 2, 3, 4, 9, 10, 11, 12, 13]), (10, [1, 2, 3, 4, 9, 10, 11, 12, 13, 14]), (11, [1, 2, 3, 4, 9, 10, 11, 12, 13, 14, 45]), (12, [1, 2, 3, 4, 9, 10, 11, 12, 13, 14]), (13, [1, 2, 3, 4, 9, 10, 11, 12, 13, 14, 15]), (14, [1, 2, 3, 4, 9, 10, 11, 12, 13, 14, 15, 66]), (15, [8]), (16, [1, 2, 3, 4, 9, 10, 11, 12, 13, 14, 15, 69]), (17, [8]), (18, [1, 2, 3, 4, 9, 10, 11, 12, 13, 14, 15]), (19, [1, 2, 3, 4, 9, 10, 11, 12, 13, 14, 15, 16]), (20, [1, 2, 3, 4, 9, 10, 11, 12, 13, 14, 15, 16, 82]), (21, [1, 2, 3, 4, 9, 10, 11, 12, 13, 14, 15, 16]), (22, [1, 2, 3, 4, 9, 10, 11, 12, 13, 14, 17]), (23, [1, 2, 3, 4, 9, 10, 11, 12, 13, 14, 17, 133]), (24, [8]), (25, [1, 2, 3, 4, 9, 10, 11, 12, 13, 14]), (26, [8]), (1000011, [1, 2, 3, 4, 9, 10, 11, 12, 13, 14]), (2000022, [1, 2, 3, 4, 9, 10, 11, 12, 13, 14, 15, 16])]), (9, [(0, [1, 2, 3]), (1, [1, 2, 3, 7]), (2, [1, 2, 3, 7, 15]), (3, [6]), (4, [1, 2, 3, 7]), (5, [1, 2, 3, 7, 8]), (6, [1, 2, 3, 7, 8, 9]), (7, [1, 2, 3, 7, 8, 9, 10]), (8, [1, 2, 3, 7, 8, 9, 10, 32]), (9, [1, 2, 3, 7, 8, 9, 10]), (10, [1, 2, 3, 7, 8, 9, 10, 65]), (11, [6]), (12, [1, 2, 3, 7, 8, 9, 10, 11]), (13, [1, 2, 3, 7, 8, 9, 10, 11, 84]), (14, [6]), (15, [1, 2, 3, 7, 8, 9, 10]), (16, [1, 2, 3, 7, 9, 91]), (17, [1, 2, 3, 7, 9]), (18, [6]), (1000008, [1, 2, 3, 7, 8, 9, 10])]), (10, [(0, [1, 2, 3, 4]), (1, [1, 2, 3, 4, 9]), (2, [1, 2, 3, 4, 9, 26]), (3, [8]), (4, [1, 2, 3, 4, 9]), (5, [1, 2, 3, 4, 9, 10]), (6, [1, 2, 3, 4, 9, 10]), (7, [1, 2, 3, 4, 9, 10, 11, 12, 13]), (8, [1, 2, 3, 4, 9, 10, 11, 12, 13, 80]), (9, [8]), (10, [1, 2, 3, 4, 9, 10, 11, 12, 13, 14]), (11, [1, 2, 3, 4, 9, 10, 11, 12, 13, 14, 84]), (12, [1, 2, 3, 4, 9, 10, 11, 12, 13, 14]), (13, [1, 2, 3, 4, 9, 10, 11, 12, 13, 14, 116]), (14, [8]), (15, [1, 2, 3, 4, 9, 10, 11, 12, 13, 15]), (16, [2, 3, 4, 9, 10, 11, 12, 16]), (17, [2, 3, 4, 9, 10, 11, 12, 184]), (18, [8]), (19, [8]), (1000011, [1, 2, 3, 4, 9, 10, 11, 12, 13, 14]), (2000017, [2, 3, 4, 9, 10, 11, 12, 16]), (2000019, [2, 3, 4, 9, 10, 11, 12])]), (11, [(0, [1, 2, 3]), (1, [1, 2, 3, 7]), (2, [1, 2, 3, 7, 18]), (3, [6]), (4, [1, 2, 3, 7]), (5, [1, 2, 3, 7, 8, 9, 10]), (6, [1, 2, 3, 7, 8, 9, 10, 67]), (7, [6]), (8, [1, 2, 3, 7, 8, 9, 10, 11, 12]), (9, [1, 2, 3, 7, 8, 9, 10, 11, 12, 13]), (10, [1, 2, 3, 7, 8, 9, 10, 11, 12, 13, 72]), (11, [1, 2, 3, 7, 8, 9, 10, 11, 12, 13]), (12, [1, 2, 3, 7, 8, 9, 10, 11, 12, 13, 126]), (13, [6]), (14, [1, 2, 3, 7, 8, 9, 10, 11, 12, 13]), (15, [1, 2, 3, 7, 8, 9, 10, 11, 12, 13, 14]), (16, [1, 2, 3, 7, 8, 9, 10, 11, 12, 13, 187]), (17, [6]), (18, [6]), (1000010, [1, 2, 3, 7, 8, 9, 10, 11, 12, 13]), (2000018, [2, 7, 8, 10, 11, 12])]), (12, [(0, []), (1, [1]), (2, [0])]), (13, [(0, [0]), (1, [2])]), (14, [(0, [0]), (1, [2])]), (15, [(0, [0, 1]), (1, [0, 1, 10]), (2, [4]), (3, [0, 1, 5]), (4, [0, 1, 5, 14]), (5, [0, 1, 5]), (6, [0, 1, 5, 25]), (7, [4]), (8, [4]), (1000004, [0, 1, 5])]), (16, [(0, [0, 1, 2, 3, 54]), (1, [0, 1, 2, 3, 21, 54]), (2, [8]), (3, [1, 2, 3, 9, 54]), (4, [1, 2, 9, 10, 54]), (5, [1, 2, 9, 10, 33, 54]), (6, [1, 2, 9, 10, 11, 54]), (7, [1, 2, 9, 10, 11, 43, 54]), (8, [1, 2, 9, 10, 11, 54]), (9, [1, 2, 9, 10, 11, 52, 54]), (10, [9, 10, 11, 13]), (11, [9, 10, 11, 13, 14]), (12, [10, 11, 13, 14, 67]), (13, []), (14, [8]), (1000005, [1, 2, 9, 10, 54])]), (17, [(0, [0, 1, 2, 3]), (1, [0, 1, 2, 3, 19]), (2, [8]), (3, [0, 1, 2, 3, 9]), (4, [0, 1, 2, 3, 9, 10]), (5, [0, 1, 2, 3, 9, 10, 24]), (6, [0, 1, 2, 3, 9, 10]), (7, [0, 1, 2, 3, 9, 10]), (8, [1, 2, 9]), (9, [1, 2, 9, 11]), (10, [1, 2, 9, 33]), (11, [1, 2, 9, 11]), (12, [1, 2, 9, 11, 12]), (13, [1, 2, 9, 11, 12, 37]), (14, [1, 2, 9, 11, 12]), (15, [1, 2, 9, 11, 12, 13]), (16, [1, 2, 9, 11, 12, 13, 48]), (17, [1, 2, 9, 11, 12, 13, 78]), (18, [1, 2, 9, 12, 13]), (19, [1, 2, 9, 11, 12, 13]), (20, [1, 2, 9, 11, 12, 13, 120]), (21, [1, 2, 9, 12]), (22, [1, 2, 9, 11, 12]), (23, [8]), (1000005, [0, 1, 2, 3, 9, 10]), (1000010, [1, 2, 9, 11]), (1000013, [1, 2, 9, 11, 12]), (2000020, [1, 2, 9, 11, 12, 13])]), (18, [(0, [0, 1, 2, 3]), (1, [0, 1, 2, 3, 18]), (2, [8]), (3, [0, 1, 2, 3, 9]), (4, [0, 1, 2, 3, 9, 22, 23]), (5, [0, 1, 2, 3, 9, 22, 23, 24]), (6, [0, 1, 2, 3, 9, 10, 22, 23]), (7, [0, 1, 2, 3, 9, 10, 11, 22, 23]), (8, [0, 1, 2, 3, 9, 10, 11, 22, 23, 34]), (9, [0, 1, 2, 3, 9, 22, 23]), (10, [0, 1, 2, 3, 9, 22, 23]), (11, [8]), (1000005, [0, 1, 2, 3, 9, 22, 23])]), (19, [(0, [0, 1, 2, 3]), (1, [0, 1, 2, 3, 9]), (2, [0, 1, 2, 3, 9, 10]), (3, [0, 1, 2, 3, 9, 10, 11]), (4, [0, 1, 2, 3, 9, 10, 11, 21]), (5, [0, 1, 2, 3, 9, 10, 11]), (6, [0, 1, 2, 3, 9, 10, 11, 12]), (7, [0, 1, 2, 3, 9, 10, 11, 12, 32]), (8, [0, 1, 2, 3, 9, 10, 11]), (9, [0, 1, 2, 3, 9, 10, 11]), (10, [8]), (1000004, [0, 1, 2, 3, 9, 10, 11])]), (20, [(0, [0, 1, 2, 3, 4]), (1, [0, 1, 2, 3, 4, 21]), (2, [10]), (3, [1, 4, 11]), (4, [1, 4, 11, 12]), (5, [1, 11, 12, 13]), (6, [1, 11, 12, 13, 32]), (7, [1, 11, 12, 13]), (8, [1, 11, 12, 13]), (9, [12]), (10, [10]), (1000006, [1, 11, 12, 13])]), (21, [(0, [0, 1, 2, 3, 4]), (1, [0, 1, 2, 3, 4, 19]), (2, [10]), (3, [1, 4, 11]), (4, [1, 4, 11, 12]), (5, [1, 11, 12, 13]), (6, [1, 11, 12, 13, 35]), (7, [1, 11, 12, 13]), (8, [1, 11, 12, 13]), (9, [10]), (1000006, [1, 11, 12, 13])]), (22, [(0, [0, 1]), (1, [0, 1, 10]), (2, [4]), (3, [0, 1, 5]), (4, [0, 1, 5, 14]), (5, [0, 1, 5]), (6, [0, 1, 5, 25]), (7, [4]), (8, [4]), (1000004, [0, 1, 5])]), (23, [(0, [0, 1]), (1, [0, 1, 10]), (2, [4]), (3, [0, 1, 5]), (4, [0, 1, 5, 14]), (5, [0, 1, 5]), (6, [0, 1, 5, 25]), (7, [4]), (8, [4]), (1000004, [0, 1, 5])]), (24, [(0, [0, 1, 2, 4, 8, 32, 33]), (1, [0, 1, 2, 4, 8, 23, 32, 33]), (2, [10]), (3, [1, 2, 8, 11, 32, 33]), (4, [1, 2, 8, 11, 12, 32, 33]), (5, [8, 11, 12, 31, 32, 33]), (6, [8, 11, 12, 13, 33]), (7, [8, 11, 12, 13, 14]), (8, [8, 11, 12, 13, 14, 15]), (9, [12, 13, 59]), (10, []), (11, [10])]), (25, [(0, [0, 1, 2, 3, 4]), (1, [0, 1, 2, 3, 4, 21]), (2, [10]), (3, [1, 2, 3, 11]), (4, [1, 2, 3, 11, 12]), (5, [1, 2, 3, 11, 12, 13]), (6, [1, 2, 3, 11, 12, 13, 35]), (7, [1, 2, 3, 11, 12, 13]), (8, [1, 2, 3, 11, 12, 13, 14, 15]), (9, [1, 2, 3, 11, 12, 13, 77]), (10, [1, 2, 3, 11, 12, 13]), (11, [10]), (1000006, [1, 2, 3, 11, 12, 13])]), (26, [(0, [3, 5, 6, 7, 9]), (1, [3, 5, 6, 7, 9, 20]), (2, [10]), (3, [3, 5, 6, 7, 9, 11]), (4, [3, 5, 6, 7, 9, 11, 12]), (5, [3, 12]), (6, [10])]), (27, [(0, [0, 1, 2, 3, 4]), (1, [0, 1, 2, 3, 4, 34]), (2, [10]), (3, [0, 1, 2, 3, 4, 11]), (4, [0, 1, 2, 3, 4, 11, 12]), (5, [0, 1, 2, 3, 4, 11, 12]), (6, [0, 1, 2, 3, 4, 11, 12, 13]), (7, [0, 1, 2, 3, 4, 11, 12, 13, 14]), (8, [0, 1, 2, 3, 4, 11, 12, 13, 14, 49]), (9, [0, 1, 2, 3, 4, 11, 12, 13, 14]), (10, [0, 1, 2, 3, 4, 11, 12, 13, 14, 15]), (11, [0, 1, 2, 3, 4, 11, 12, 13, 14, 15, 16]), (12, [0, 1, 2, 3, 4, 11, 12, 13, 14, 15, 16, 54]), (13, [0, 1, 2, 3, 4, 11, 12, 13, 14, 15, 16]), (14, [0, 1, 2, 3, 4, 11, 12, 13, 14, 15, 16, 83]), (15, [0, 1, 2, 3, 4, 11, 12, 13, 14, 15, 16]), (16, [0, 1, 2, 3, 4, 11, 12, 13, 14, 15, 86]), (17, [0, 1, 2, 3, 4, 11, 12, 13, 14, 15]), (18, [0, 1, 2, 3, 4, 11, 12, 13, 14, 15, 17]), (19, [0, 1, 2, 3, 4, 11, 12, 13, 14, 15, 17, 18]), (20, [0, 1, 2, 3, 4, 11, 12, 13, 14, 15, 17, 18, 99]), (21, [0, 1, 2, 3, 4, 11, 12, 13, 14, 15, 17, 18]), (22, [0, 1, 2, 3, 4, 11, 12, 13, 14, 15, 17, 18, 19]), (23, [0, 1, 2, 3, 4, 11, 12, 13, 14, 15, 17, 18]), (24, [10]), (1000008, [0, 1, 2, 3, 4, 11, 12, 13, 14]), (1000012, [0, 1, 2, 3, 4, 11, 12, 13, 14, 15, 16]), (1000020, [0, 1, 2, 3, 4, 11, 12, 13, 14, 15, 17, 18])]), (28, [(0, [0, 2]), (1, [0, 2, 3]), (2, [0, 2, 3, 4]), (3, [0, 2, 3, 4, 17]), (4, [0, 2, 3, 4]), (5, [0, 2, 3, 4]), (6, [2]), (1000003, [0, 2, 3, 4])]), (29, [(0, [1, 2]), (1, [4])]), (30, [(0, [1, 2, 3]), (1, [6])]), (31, [(0, [1, 2, 3]), (1, [6])]), (32, [(0, [1, 2]), (1, [4])]), (33, [(0, [1, 2, 3]), (1, [6])]), (34, [(0, [1]), (1, [1, 27]), (2, [2]), (3, [1, 3]), (4, [1, 3, 32]), (5, [1, 3]), (6, [1, 3, 4]), (7, [1, 3, 78]), (8, [2]), (9, [2]), (1000004, [1, 3])]), (35, [(0, [0, 1]), (1, [0, 1]), (2, [0, 1, 9]), (3, [0]), (4, [4])]), (36, [(0, [1, 2]), (1, [2, 8]), (2, [4]), (3, [4])]), (37, [(0, [1, 2, 3, 4]), (1, [1, 2, 3, 4, 9]), (2, [1, 3, 9, 30]), (3, [8]), (4, [3, 9, 31, 32, 33]), (5, [3, 9, 31, 32, 33, 34]), (6, [3, 9, 11, 31, 32, 33]), (7, [3, 9, 31, 32, 33, 65]), (8, [8]), (9, [3, 9, 31, 32, 33]), (10, [8]), (1000005, [3, 9, 31, 32, 33])]), (38, [(0, [0, 1]), (1, [0, 1, 10]), (2, [0, 1]), (3, [0, 5, 6]), (4, [0, 6, 26]), (5, [0, 6]), (6, [0, 7]), (7, [7, 8]), (8, [7, 8, 37]), (9, [7, 8]), (10, [4]), (1000008, [7, 8]), (2000003, [0, 1]), (2000006, [0, 6])]), (39, [(0, [0]), (1, [2])]), (40, [(0, [0]), (1, [0, 3]), (2, [0, 3]), (3, [0]), (4, [2])]), (41, [(0, [2, 3]), (1, [4])]), (42, [(0, [1, 2]), (1, [2, 5]), (2, [2, 5, 6]), (3, [4]), (4, [2, 12]), (5, [4]), (6, [4])]), (43, [(0, [0]), (1, [])]), (44, [(0, [0, 1, 2, 3]), (1, [8])]), (45, [(0, [0, 2, 3]), (1, [0, 2, 3, 9]), (2, [0, 2, 3]), (3, [0, 2, 3]), (1000001, [0, 2, 3])]), (46, [(0, [1, 2]), (1, [2, 6]), (2, [2, 6, 7]), (3, [4, 5]), (4, [2, 13]), (5, [4, 5]), (6, [4, 5])]), (47, [(0, [0, 1, 2, 3, 4, 5, 6]), (1, [0, 1, 2, 3, 4, 5, 6, 9, 10]), (2, [0, 1, 2, 3, 4, 5, 6, 9, 20]), (3, [8]), (4, [0, 1, 2, 3, 4, 5, 6, 11]), (5, [0, 1, 3, 6, 11, 27, 28, 29]), (6, [0, 1, 3, 6, 11, 27, 28, 29, 30]), (7, [0, 1, 3, 6, 11, 13, 27, 28, 29]), (8, [0, 1, 3, 6, 11, 27, 28, 29]), (9, [0, 1, 3, 6, 11, 27, 28, 29]), (10, [11]), (11, [8]), (1000006, [0, 1, 3, 6, 11, 27, 28, 29])]), (48, [(0, [0, 1]), (1, [0, 1, 5]), (2, [0, 1, 5, 9]), (3, [0, 1, 5]), (4, [0, 1, 5, 17]), (5, [4]), (6, [4]), (1000002, [0, 1, 5])]), (49, [(0, [0, 1]), (1, [3])]), (50, [(0, [0, 1]), (1, [4])]), (51, [(0, [0, 1]), (1, [3])]), (52, [(0, [0, 1]), (1, [6, 7]), (2, [4, 5]), (3, [8, 9]), (4, [4, 5])]), (53, [(0, [0, 1, 2]), (1, [0, 1, 2, 7]), (2, [0, 1, 2, 7, 8]), (3, [0, 1, 2, 7, 8, 21]), (4, [0, 1, 2, 7, 8, 9]), (5, [0, 1, 2, 7, 8, 9, 10]), (6, [0, 1, 2, 7, 9, 10, 33]), (7, [0, 1, 2, 7, 9]), (8, [0, 1, 2, 7, 9, 39]), (9, [0, 1, 2, 9]), (10, [0, 1, 2, 7]), (11, [6]), (1000002, [0, 1, 2, 7])]), (54, [(0, [0, 2, 6, 7, 8]), (1, [0, 2, 6, 7, 8, 9]), (2, [0, 2, 4, 5, 6, 7, 8]), (3, [0, 2, 6, 7, 8, 23]), (4, [0, 2, 6, 7, 8]), (1000001, [0, 2, 6, 7, 8])]), (55, [(0, [0, 1, 4]), (1, [0, 1, 4, 17]), (2, [0, 4]), (3, [0, 1]), (1000000, [0, 1])]), (56, [(0, [0, 1]), (1, [0, 1, 7]), (2, [4]), (3, [0, 1, 14]), (4, [4]), (5, [0, 1, 5]), (6, [0, 1, 5, 21]), (7, [0, 1, 5]), (8, [0, 1, 5, 6]), (9, [0, 1, 5, 6, 57]), (10, [4]), (11, [0, 1, 5, 62]), (12, [4]), (13, [4]), (1000006, [0, 1, 5])]), (57, [(0, [0, 1]), (1, [0, 1, 7, 8]), (2, [0, 1, 7, 8, 9]), (3, [0, 1, 5, 7, 8]), (4, [0, 1, 5, 7, 8, 16]), (5, [4]), (6, [0, 1, 7, 8]), (7, [4]), (1000002, [0, 1, 7, 8])]), (58, [(0, [0, 1]), (1, [6]), (2, [4, 5])]), (59, [(0, [0, 1]), (1, [0, 1, 6]), (2, [0, 1, 6, 7]), (3, [0, 1, 6, 7, 8]), (4, [0, 1, 6, 7, 8, 9]), (5, [0, 1, 6, 7, 8, 9, 10]), (6, [0, 1, 6, 7, 9, 11]), (7, [0, 1, 6, 7, 9, 11, 12]), (8, [0, 1, 6, 7, 9, 12, 13]), (9, [0, 1, 7, 9, 12, 13]), (10, [0, 1, 4]), (11, [4, 5])]), (76, [(0, [0, 1, 2]), (1, [6])]), (77, [(0, [0]), (1, [0, 3]), (2, [0, 3, 4]), (3, [4]), (4, [2])]), (78, [(0, [])]), (79, [(0, [])])] [(5, [2, 3, 4, 5, 8]), (6, [19]), (8, [22]), (10, [17, 19]), (11, [18]), (16, [777777]), (17, [20]), (38, [6, 3])] [(75, 51), (20, 53)]
/- 3 leafmesh/leafmeshlaw10.SpfDist -/
theorem xLaw10SpfDist (m : Mem) (n : Nat) (Q : Value → Mem → Nat → Prop) (nodes : Int) (links_a : Option Addr) (links_l : Nat) (links_c : Nat) (up_a : Option Addr) (up_l : Nat) (up_c : Nat) (from' : Int) (to : Int) :
 Xc Try.prog xcfg 400 fLaw10SpfDist [Value.int IntKind.i64 nodes, Value.slice links_a links_l links_c, Value.slice up_a up_l up_c, Value.int IntKind.i64 from', Value.int IntKind.i64 to] m n Q =
 (bif decide ((↑links_l : Int) > 60) then Wc Try.prog fLaw10awake [] m n fun (v0 : Value) (m1 : Mem) (k2 : Nat) => ∃ (b3 : Bool), v0 = Value.bool b3 ∧ Later (Q (Value.bool b3) m1 k2)
 else
 bif decide ((↑up_l : Int) > 60) then Wc Try.prog fLaw10awake [] m n fun (v4 : Value) (m5 : Mem) (k6 : Nat) => ∃ (b7 : Bool), v4 = Value.bool b7 ∧ Later (Q (Value.bool b7) m5 k6)
 else
 Wc Try.prog fKitOwnapiLink [Value.slice links_a links_l links_c] m n fun (v8 : Value) (m9 : Mem) (k10 : Nat) =>
 ∃ (p11 : Option Addr),
 ∃ (k12 : Nat),
 ∃ (k13 : Nat),
 v8 = Value.slice p11 k12 k13 ∧
 Later
 (Wc Try.prog fKitOwnbool [Value.slice up_a up_l up_c] m9 k10 fun (v14 : Value) (m15 : Mem) (k16 : Nat) =>
 ∃ (p17 : Option Addr),
 ∃ (k18 : Nat),
 ∃ (k19 : Nat),
 v14 = Value.slice p17 k18 k19 ∧
 Later
 (Wc Try.prog fSpfDist [Value.int IntKind.i64 nodes, Value.slice p11 k12 k13, Value.slice p17 k18 k19, Value.int IntKind.i64 from'] m15 k16 fun (v20 : Value) (m21 : Mem) (k22 : Nat) =>
 ∃ (p23 : Option Addr),
 ∃ (k24 : Nat),
 ∃ (k25 : Nat),
 v20 = Value.slice p23 k24 k25 ∧
 Later
 (Wc Try.prog fRef10Dist [Value.int IntKind.i64 nodes, Value.slice links_a links_l links_c, Value.slice up_a up_l up_c, Value.int IntKind.i64 from'] m21 k22 fun (v26 : Value) (m27 : Mem) (k28 : Nat) =>
 ∃ (p29 : Option Addr),
 ∃ (k30 : Nat),
 ∃ (k31 : Nat),
 v26 = Value.slice p29 k30 k31 ∧
 Later
 (Wc Try.prog fKitSameint [Value.slice p23 k24 k25, Value.slice p29 k30 k31] m27 k28 fun (v32 : Value) (m33 : Mem) (k34 : Nat) =>
 ∃ (b35 : Bool),
 v32 = Value.bool b35 ∧
 Later
 (bif b35 then
 Wc Try.prog fSpfParents [Value.int IntKind.i64 nodes, Value.slice p11 k12 k13, Value.slice p17 k18 k19, Value.int IntKind.i64 from'] m33 k34 fun (v36 : Value) (m37 : Mem) (k38 : Nat) =>
 ∃ (p39 : Option Addr),
 ∃ (k40 : Nat),
 ∃ (k41 : Nat),
 v36 = Value.slice p39 k40 k41 ∧
 Later
 (Wc Try.prog fRef10Parents [Value.int IntKind.i64 nodes, Value.slice links_a links_l links_c, Value.slice up_a up_l up_c, Value.int IntKind.i64 from'] m37 k38 fun (v42 : Value) (m43 : Mem) (k44 : Nat) =>
 ∃ (p45 : Option Addr),
 ∃ (k46 : Nat),
 ∃ (k47 : Nat),
 v42 = Value.slice p45 k46 k47 ∧
 Later
 (Wc Try.prog fKitSameint [Value.slice p39 k40 k41, Value.slice p45 k46 k47] m43 k44 fun (v48 : Value) (m49 : Mem) (k50 : Nat) =>
 ∃ (b51 : Bool),
 v48 = Value.bool b51 ∧
 Later
 (bif b51 then
 Wc Try.prog fSpfPath [Value.int IntKind.i64 nodes, Value.slice p11 k12 k13, Value.slice p17 k18 k19, Value.int IntKind.i64 from', Value.int IntKind.i64 to] m49 k50 fun (v52 : Value) (m53 : Mem) (k54 : Nat) =>
 ∃ (p55 : Option Addr),
 ∃ (k56 : Nat),
 ∃ (k57 : Nat),
 v52 = Value.slice p55 k56 k57 ∧
 Later
 (Wc Try.prog fRef10Path [Value.int IntKind.i64 nodes, Value.slice links_a links_l links_c, Value.slice up_a up_l up_c, Value.int IntKind.i64 from', Value.int IntKind.i64 to] m53 k54 fun (v58 : Value) (m59 : Mem) (k60 : Nat) =>
 ∃ (p61 : Option Addr),
 ∃ (k62 : Nat),
 ∃ (k63 : Nat),
 v58 = Value.slice p61 k62 k63 ∧
 Later
 (Wc Try.prog fKitSameint [Value.slice p55 k56 k57, Value.slice p61 k62 k63] m59 k60 fun (v64 : Value) (m65 : Mem) (k66 : Nat) =>
 ∃ (b67 : Bool), v64 = Value.bool b67 ∧ Later (bif b67 then Wc Try.prog fKitSameapiLink [Value.slice p11 k12 k13, Value.slice links_a links_l links_c] m65 k66 fun (v68 : Value) (m69 : Mem) (k70 : Nat) => ∃ (b71 : Bool), v68 = Value.bool b71 ∧ Later (bif b71 then Wc Try.prog fKitSamebool [Value.slice p17 k18 k19, Value.slice up_a up_l up_c] m69 k70 fun (v72 : Value) (m73 : Mem) (k74 : Nat) => ∃ (b75 : Bool), v72 = Value.bool b75 ∧ Later (bif b75 then Wc Try.prog fLaw10awake [] m73 k74 fun (v76 : Value) (m77 : Mem) (k78 : Nat) => ∃ (b79 : Bool), v76 = Value.bool b79 ∧ Later (Q (Value.bool b79) m77 k78) else Q (Value.bool false) m73 k74) else Q (Value.bool false) m69 k70) else Q (Value.bool false) m65 k66)))
 else Q (Value.bool false) m49 k50)))
 else Q (Value.bool false) m33 k34)))))) := by kernel_rfl

/- 4 leafmesh/leafmeshlaw10.SpfNext -/
theorem xLaw10SpfNext (m : Mem) (n : Nat) (Q : Value → Mem → Nat → Prop) (nodes : Int) (links_a : Option Addr) (links_l : Nat) (links_c : Nat) (up_a : Option Addr) (up_l : Nat) (up_c : Nat) (from' : Int) (to : Int) :
 Xc Try.prog xcfg 400 fLaw10SpfNext [Value.int IntKind.i64 nodes, Value.slice links_a links_l links_c, Value.slice up_a up_l up_c, Value.int IntKind.i64 from', Value.int IntKind.i64 to] m n Q =
 (bif decide ((↑links_l : Int) > 60) then Wc Try.prog fLaw10awake [] m n fun (v0 : Value) (m1 : Mem) (k2 : Nat) => ∃ (b3 : Bool), v0 = Value.bool b3 ∧ Later (Q (Value.bool b3) m1 k2)
 else
 bif decide ((↑up_l : Int) > 60) then Wc Try.prog fLaw10awake [] m n fun (v4 : Value) (m5 : Mem) (k6 : Nat) => ∃ (b7 : Bool), v4 = Value.bool b7 ∧ Later (Q (Value.bool b7) m5 k6)
 else
 Wc Try.prog fKitOwnapiLink [Value.slice links_a links_l links_c] m n fun (v8 : Value) (m9 : Mem) (k10 : Nat) =>
 ∃ (p11 : Option Addr),
 ∃ (k12 : Nat),
 ∃ (k13 : Nat),
 v8 = Value.slice p11 k12 k13 ∧
 Later
 (Wc Try.prog fKitOwnbool [Value.slice up_a up_l up_c] m9 k10 fun (v14 : Value) (m15 : Mem) (k16 : Nat) =>
 ∃ (p17 : Option Addr),
 ∃ (k18 : Nat),
 ∃ (k19 : Nat),
 v14 = Value.slice p17 k18 k19 ∧
 Later
 (Wc Try.prog fSpfNext [Value.int IntKind.i64 nodes, Value.slice p11 k12 k13, Value.slice p17 k18 k19, Value.int IntKind.i64 from', Value.int IntKind.i64 to] m15 k16 fun (v20 : Value) (m21 : Mem) (k22 : Nat) =>
 ∃ (p23 : Option Addr),
 ∃ (k24 : Nat),
 ∃ (k25 : Nat),
 v20 = Value.slice p23 k24 k25 ∧
 Later
 (Wc Try.prog fRef10Next [Value.int IntKind.i64 nodes, Value.slice links_a links_l links_c, Value.slice up_a up_l up_c, Value.int IntKind.i64 from', Value.int IntKind.i64 to] m21 k22 fun (v26 : Value) (m27 : Mem) (k28 : Nat) =>
 ∃ (p29 : Option Addr),
 ∃ (k30 : Nat),
 ∃ (k31 : Nat),
 v26 = Value.slice p29 k30 k31 ∧
 Later
 (Wc Try.prog fKitSameint [Value.slice p23 k24 k25, Value.slice p29 k30 k31] m27 k28 fun (v32 : Value) (m33 : Mem) (k34 : Nat) =>
 ∃ (b35 : Bool),
 v32 = Value.bool b35 ∧
 Later
 (bif b35 then
 Wc Try.prog fSpfPaths [Value.int IntKind.i64 nodes, Value.slice p11 k12 k13, Value.slice p17 k18 k19, Value.int IntKind.i64 from', Value.int IntKind.i64 to] m33 k34 fun (v36 : Value) (m37 : Mem) (k38 : Nat) =>
 ∃ (x39 : Int),
 v36 = Value.int IntKind.i64 x39 ∧
 Later
 (Wc Try.prog fRef10Paths [Value.int IntKind.i64 nodes, Value.slice links_a links_l links_c, Value.slice up_a up_l up_c, Value.int IntKind.i64 from', Value.int IntKind.i64 to] m37 k38 fun (v40 : Value) (m41 : Mem) (k42 : Nat) =>
 ∃ (x43 : Int), v40 = Value.int IntKind.i64 x43 ∧ Later (bif x39 == x43 then Wc Try.prog fKitSameapiLink [Value.slice p11 k12 k13, Value.slice links_a links_l links_c] m41 k42 fun (v44 : Value) (m45 : Mem) (k46 : Nat) => ∃ (b47 : Bool), v44 = Value.bool b47 ∧ Later (bif b47 then Wc Try.prog fKitSamebool [Value.slice p17 k18 k19, Value.slice up_a up_l up_c] m45 k46 fun (v48 : Value) (m49 : Mem) (k50 : Nat) => ∃ (b51 : Bool), v48 = Value.bool b51 ∧ Later (bif b51 then Wc Try.prog fLaw10awake [] m49 k50 fun (v52 : Value) (m53 : Mem) (k54 : Nat) => ∃ (b55 : Bool), v52 = Value.bool b55 ∧ Later (Q (Value.bool b55) m53 k54) else Q (Value.bool false) m49 k50) else Q (Value.bool false) m45 k46) else Q (Value.bool false) m41 k42))
 else Q (Value.bool false) m33 k34)))))) := by kernel_rfl

/- 5 leafmesh/leafmeshlaw10.SpfKnown -/
theorem xLaw10SpfKnown (m : Mem) (n : Nat) (Q : Value → Mem → Nat → Prop) :
 Xc Try.prog xcfg 400 fLaw10SpfKnown [] m n Q =
 (Wc Try.prog fLaw10five [Value.slice none 0 0] m n fun (v0 : Value) (m1 : Mem) (k2 : Nat) =>
 ∃ (x3 : Int),
 ∃ (p4 : Option Addr),
 ∃ (k5 : Nat),
 ∃ (k6 : Nat),
 ∃ (p7 : Option Addr),
 ∃ (k8 : Nat),
 ∃ (k9 : Nat),
 v0 = Value.agg { toList := [Value.int IntKind.i64 x3, Value.slice p4 k5 k6, Value.slice p7 k8 k9] } ∧
 Later
 (memLet (Tr.set m1 k2 (AObj.cells none tInt 1 [Value.int IntKind.i64 0])) fun (m10 : Mem) =>
 Wc Try.prog fLaw10five [Value.slice (some { block := k2, off := 0 }) 1 1] m10 (k2 + 1) fun (v11 : Value) (m12 : Mem) (k13 : Nat) =>
 ∃ (x14 : Int),
 ∃ (p15 : Option Addr),
 ∃ (k16 : Nat),
 ∃ (k17 : Nat),
 ∃ (p18 : Option Addr),
 ∃ (k19 : Nat),
 ∃ (k20 : Nat),
 v11 = Value.agg { toList := [Value.int IntKind.i64 x14, Value.slice p15 k16 k17, Value.slice p18 k19 k20] } ∧
 Later
 (memLet (Tr.set m12 k13 (AObj.cells none tInt 1 [Value.int IntKind.i64 0, Value.int IntKind.i64 1])) fun (m21 : Mem) =>
 Wc Try.prog fLaw10five [Value.slice (some { block := k13, off := 0 }) 2 2] m21 (k13 + 1) fun (v22 : Value) (m23 : Mem) (k24 : Nat) =>
 ∃ (x25 : Int),
 ∃ (p26 : Option Addr),
 ∃ (k27 : Nat),
 ∃ (k28 : Nat),
 ∃ (p29 : Option Addr),
 ∃ (k30 : Nat),
 ∃ (k31 : Nat),
 v22 = Value.agg { toList := [Value.int IntKind.i64 x25, Value.slice p26 k27 k28, Value.slice p29 k30 k31] } ∧
 Later
 (memLet (Tr.set m23 k24 (AObj.cells none tLaw10Net 3 [Value.int IntKind.i64 0, Value.slice none 0 0, Value.slice none 0 0])) fun (m32 : Mem) =>
 memLet (Tr.set m32 (k24 + 1) (AObj.cells none tLaw10Net 3 [Value.int IntKind.i64 0, Value.slice none 0 0, Value.slice none 0 0])) fun (m33 : Mem) =>
 memLet (Tr.set m33 (k24 + 1 + 1) (AObj.cells none tLaw10Net 3 [Value.int IntKind.i64 0, Value.slice none 0 0, Value.slice none 0 0])) fun (m34 : Mem) =>
 ∃ (m35 : Mem), storeCs m34 k24 0 [Value.int IntKind.i64 x3, Value.slice p4 k5 k6, Value.slice p7 k8 k9] = some m35 ∧ ∃ (m36 : Mem), storeCs m35 (k24 + 1) 0 [Value.int IntKind.i64 x14, Value.slice p15 k16 k17, Value.slice p18 k19 k20] = some m36 ∧ ∃ (m37 : Mem), storeCs m36 (k24 + 1 + 1) 0 [Value.int IntKind.i64 x25, Value.slice p26 k27 k28, Value.slice p29 k30 k31] = some m37 ∧ W Try.prog { fn := fLaw10SpfKnown, nt := 108, slots := [(1, Value.pointer (some { block := k24, off := 0 })), (2, Value.pointer (some { block := k24 + 1, off := 0 })), (3, Value.pointer (some { block := k24 + 1 + 1, off := 0 }))], todo := pt Try.prog fLaw10SpfKnown [1, 1, 0] } m37 (k24 + 1 + 1 + 1) Q)))) := by kernel_rfl

theorem xLaw10SpfKnownk0 (m : Mem) (n : Nat) (Q : Value → Mem → Nat → Prop) (x : Option Addr) (y : Option Addr) (z : Option Addr) :
 xF (ev1 Try.prog xcfg 400) { fn := fLaw10SpfKnown, nt := 108, slots := [(1, Value.pointer x), (2, Value.pointer y), (3, Value.pointer z)], todo := pt Try.prog fLaw10SpfKnown [1, 1, 0] } m n Q =
 (elimP x False fun (k0 k1 : Nat) =>
 ∃ (x2 : Int),
 ∃ (p3 : Option Addr),
 ∃ (k4 : Nat),
 ∃ (k5 : Nat),
 ∃ (p6 : Option Addr),
 ∃ (k7 : Nat),
 ∃ (k8 : Nat),
 rds m k0 k1 3 = some [Value.int IntKind.i64 x2, Value.slice p3 k4 k5, Value.slice p6 k7 k8] ∧
 Wc Try.prog fLaw10Netdist [Value.agg { toList := [Value.int IntKind.i64 x2, Value.slice p3 k4 k5, Value.slice p6 k7 k8] }, Value.int IntKind.i64 4] m n fun (v9 : Value) (m10 : Mem) (k11 : Nat) =>
 ∃ (p12 : Option Addr),
 ∃ (k13 : Nat),
 ∃ (k14 : Nat),
 v9 = Value.slice p12 k13 k14 ∧
 Later
 (memLet (Tr.set m10 k11 (AObj.cells none tInt 1 [Value.int IntKind.i64 (-1), Value.int IntKind.i64 (-1), Value.int IntKind.i64 (-1), Value.int IntKind.i64 (-1), Value.int IntKind.i64 0])) fun (m15 : Mem) =>
 Wc Try.prog fKitSameint [Value.slice p12 k13 k14, Value.slice (some { block := k11, off := 0 }) 5 5] m15 (k11 + 1) fun (v16 : Value) (m17 : Mem) (k18 : Nat) =>
 ∃ (b19 : Bool),
 v16 = Value.bool b19 ∧
 Later
 (bif b19 then
 elimP x False fun (k20 k21 : Nat) =>
 ∃ (x22 : Int),
 ∃ (p23 : Option Addr),
 ∃ (k24 : Nat),
 ∃ (k25 : Nat),
 ∃ (p26 : Option Addr),
 ∃ (k27 : Nat),
 ∃ (k28 : Nat),
 rds m17 k20 k21 3 = some [Value.int IntKind.i64 x22, Value.slice p23 k24 k25, Value.slice p26 k27 k28] ∧
 Wc Try.prog fLaw10Netnext [Value.agg { toList := [Value.int IntKind.i64 x22, Value.slice p23 k24 k25, Value.slice p26 k27 k28] }, Value.int IntKind.i64 0, Value.int IntKind.i64 1] m17 k18 fun (v29 : Value) (m30 : Mem) (k31 : Nat) =>
 ∃ (p32 : Option Addr),
 ∃ (k33 : Nat),
 ∃ (k34 : Nat),
 v29 = Value.slice p32 k33 k34 ∧
 Later
 (memLet (Tr.set m30 k31 (AObj.cells none tInt 1 [Value.int IntKind.i64 0, Value.int IntKind.i64 1])) fun (m35 : Mem) =>
 Wc Try.prog fKitSameint [Value.slice p32 k33 k34, Value.slice (some { block := k31, off := 0 }) 2 2] m35 (k31 + 1) fun (v36 : Value) (m37 : Mem) (k38 : Nat) =>
 ∃ (b39 : Bool),
 v36 = Value.bool b39 ∧
 Later
 (bif b39 then
 elimP x False fun (k40 k41 : Nat) =>
 ∃ (x42 : Int),
 ∃ (p43 : Option Addr),
 ∃ (k44 : Nat),
 ∃ (k45 : Nat),
 ∃ (p46 : Option Addr),
 ∃ (k47 : Nat),
 ∃ (k48 : Nat),
 rds m37 k40 k41 3 = some [Value.int IntKind.i64 x42, Value.slice p43 k44 k45, Value.slice p46 k47 k48] ∧
 Wc Try.prog fLaw10Netpaths [Value.agg { toList := [Value.int IntKind.i64 x42, Value.slice p43 k44 k45, Value.slice p46 k47 k48] }, Value.int IntKind.i64 0, Value.int IntKind.i64 0] m37 k38 fun (v49 : Value) (m50 : Mem) (k51 : Nat) =>
 ∃ (x52 : Int),
 v49 = Value.int IntKind.i64 x52 ∧
 Later
 (bif x52 == 1 then
 elimP x False fun (k53 k54 : Nat) =>
 ∃ (x55 : Int),
 ∃ (p56 : Option Addr),
 ∃ (k57 : Nat),
 ∃ (k58 : Nat),
 ∃ (p59 : Option Addr),
 ∃ (k60 : Nat),
 ∃ (k61 : Nat),
 rds m50 k53 k54 3 = some [Value.int IntKind.i64 x55, Value.slice p56 k57 k58, Value.slice p59 k60 k61] ∧
 Wc Try.prog fLaw10Netpaths [Value.agg { toList := [Value.int IntKind.i64 x55, Value.slice p56 k57 k58, Value.slice p59 k60 k61] }, Value.int IntKind.i64 0, Value.int IntKind.i64 4] m50 k51 fun (v62 : Value) (m63 : Mem) (k64 : Nat) =>
 ∃ (x65 : Int),
 v62 = Value.int IntKind.i64 x65 ∧
 Later
 (bif x65 == 0 then
 elimP x False fun (k66 k67 : Nat) =>
 ∃ (x68 : Int),
 ∃ (p69 : Option Addr),
 ∃ (k70 : Nat),
 ∃ (k71 : Nat),
 ∃ (p72 : Option Addr),
 ∃ (k73 : Nat),
 ∃ (k74 : Nat),
 rds m63 k66 k67 3 = some [Value.int IntKind.i64 x68, Value.slice p69 k70 k71, Value.slice p72 k73 k74] ∧
 Wc Try.prog fLaw10Netparents [Value.agg { toList := [Value.int IntKind.i64 x68, Value.slice p69 k70 k71, Value.slice p72 k73 k74] }, Value.int IntKind.i64 0] m63 k64 fun (v75 : Value) (m76 : Mem) (k77 : Nat) =>
 ∃ (p78 : Option Addr),
 ∃ (k79 : Nat),
 ∃ (k80 : Nat),
 v75 = Value.slice p78 k79 k80 ∧
 Later
 (memLet (Tr.set m76 k77 (AObj.cells none tInt 1 [Value.int IntKind.i64 (-1), Value.int IntKind.i64 2, Value.int IntKind.i64 0, Value.int IntKind.i64 1, Value.int IntKind.i64 (-1)])) fun (m81 : Mem) =>
 Wc Try.prog fKitSameint [Value.slice p78 k79 k80, Value.slice (some { block := k77, off := 0 }) 5 5] m81 (k77 + 1) fun (v82 : Value) (m83 : Mem) (k84 : Nat) =>
 ∃ (b85 : Bool),
 v82 = Value.bool b85 ∧
 Later
 (bif b85 then
 elimP x False fun (k86 k87 : Nat) =>
 ∃ (x88 : Int),
 ∃ (p89 : Option Addr),
 ∃ (k90 : Nat),
 ∃ (k91 : Nat),
 ∃ (p92 : Option Addr),
 ∃ (k93 : Nat),
 ∃ (k94 : Nat),
 rds m83 k86 k87 3 = some [Value.int IntKind.i64 x88, Value.slice p89 k90 k91, Value.slice p92 k93 k94] ∧
 Wc Try.prog fLaw10Netpath [Value.agg { toList := [Value.int IntKind.i64 x88, Value.slice p89 k90 k91, Value.slice p92 k93 k94] }, Value.int IntKind.i64 0, Value.int IntKind.i64 1] m83 k84 fun (v95 : Value) (m96 : Mem) (k97 : Nat) =>
 ∃ (p98 : Option Addr), ∃ (k99 : Nat), ∃ (k100 : Nat), v95 = Value.slice p98 k99 k100 ∧ Later (memLet (Tr.set m96 k97 (AObj.cells none tInt 1 [Value.int IntKind.i64 0, Value.int IntKind.i64 2])) fun (m101 : Mem) => Wc Try.prog fKitSameint [Value.slice p98 k99 k100, Value.slice (some { block := k97, off := 0 }) 2 2] m101 (k97 + 1) fun (v102 : Value) (m103 : Mem) (k104 : Nat) => ∃ (b105 : Bool), v102 = Value.bool b105 ∧ Later (W Try.prog { fn := fLaw10SpfKnown, nt := 108, slots := [(1, Value.pointer x), (2, Value.pointer y), (3, Value.pointer z), (4, Value.bool b105)], todo := pt Try.prog fLaw10SpfKnown [1, 1, 1, 0] } m103 k104 Q))
 else W Try.prog { fn := fLaw10SpfKnown, nt := 108, slots := [(1, Value.pointer x), (2, Value.pointer y), (3, Value.pointer z), (4, Value.bool false)], todo := pt Try.prog fLaw10SpfKnown [1, 1, 1, 0] } m83 k84 Q))
 else W Try.prog { fn := fLaw10SpfKnown, nt := 108, slots := [(1, Value.pointer x), (2, Value.pointer y), (3, Value.pointer z), (4, Value.bool false)], todo := pt Try.prog fLaw10SpfKnown [1, 1, 1, 0] } m63 k64 Q)
 else W Try.prog { fn := fLaw10SpfKnown, nt := 108, slots := [(1, Value.pointer x), (2, Value.pointer y), (3, Value.pointer z), (4, Value.bool false)], todo := pt Try.prog fLaw10SpfKnown [1, 1, 1, 0] } m50 k51 Q)
 else W Try.prog { fn := fLaw10SpfKnown, nt := 108, slots := [(1, Value.pointer x), (2, Value.pointer y), (3, Value.pointer z), (4, Value.bool false)], todo := pt Try.prog fLaw10SpfKnown [1, 1, 1, 0] } m37 k38 Q))
 else W Try.prog { fn := fLaw10SpfKnown, nt := 108, slots := [(1, Value.pointer x), (2, Value.pointer y), (3, Value.pointer z), (4, Value.bool false)], todo := pt Try.prog fLaw10SpfKnown [1, 1, 1, 0] } m17 k18 Q))) := by kernel_rfl

theorem xLaw10SpfKnownk1 (m : Mem) (n : Nat) (Q : Value → Mem → Nat → Prop) (x_1 : Option Addr) (y_1 : Option Addr) (z_1 : Option Addr) (one : Bool) :
 xF (ev1 Try.prog xcfg 400) { fn := fLaw10SpfKnown, nt := 108, slots := [(1, Value.pointer x_1), (2, Value.pointer y_1), (3, Value.pointer z_1), (4, Value.bool one)], todo := pt Try.prog fLaw10SpfKnown [1, 1, 1, 0] } m n Q =
 (elimP y_1 False fun (k0 k1 : Nat) =>
 ∃ (x2 : Int),
 ∃ (p3 : Option Addr),
 ∃ (k4 : Nat),
 ∃ (k5 : Nat),
 ∃ (p6 : Option Addr),
 ∃ (k7 : Nat),
 ∃ (k8 : Nat),
 rds m k0 k1 3 = some [Value.int IntKind.i64 x2, Value.slice p3 k4 k5, Value.slice p6 k7 k8] ∧
 Wc Try.prog fLaw10Netnext [Value.agg { toList := [Value.int IntKind.i64 x2, Value.slice p3 k4 k5, Value.slice p6 k7 k8] }, Value.int IntKind.i64 0, Value.int IntKind.i64 1] m n fun (v9 : Value) (m10 : Mem) (k11 : Nat) =>
 ∃ (p12 : Option Addr),
 ∃ (k13 : Nat),
 ∃ (k14 : Nat),
 v9 = Value.slice p12 k13 k14 ∧
 Later
 (memLet (Tr.set m10 k11 (AObj.cells none tInt 1 [Value.int IntKind.i64 1])) fun (m15 : Mem) =>
 Wc Try.prog fKitSameint [Value.slice p12 k13 k14, Value.slice (some { block := k11, off := 0 }) 1 1] m15 (k11 + 1) fun (v16 : Value) (m17 : Mem) (k18 : Nat) =>
 ∃ (b19 : Bool),
 v16 = Value.bool b19 ∧
 Later
 (bif b19 then
 elimP y_1 False fun (k20 k21 : Nat) =>
 ∃ (x22 : Int),
 ∃ (p23 : Option Addr),
 ∃ (k24 : Nat),
 ∃ (k25 : Nat),
 ∃ (p26 : Option Addr),
 ∃ (k27 : Nat),
 ∃ (k28 : Nat),
 rds m17 k20 k21 3 = some [Value.int IntKind.i64 x22, Value.slice p23 k24 k25, Value.slice p26 k27 k28] ∧
 Wc Try.prog fLaw10Netpaths [Value.agg { toList := [Value.int IntKind.i64 x22, Value.slice p23 k24 k25, Value.slice p26 k27 k28] }, Value.int IntKind.i64 0, Value.int IntKind.i64 1] m17 k18 fun (v29 : Value) (m30 : Mem) (k31 : Nat) =>
 ∃ (x32 : Int),
 v29 = Value.int IntKind.i64 x32 ∧
 Later
 (bif x32 == 2 then
 elimP y_1 False fun (k33 k34 : Nat) =>
 ∃ (x35 : Int),
 ∃ (p36 : Option Addr),
 ∃ (k37 : Nat),
 ∃ (k38 : Nat),
 ∃ (p39 : Option Addr),
 ∃ (k40 : Nat),
 ∃ (k41 : Nat),
 rds m30 k33 k34 3 = some [Value.int IntKind.i64 x35, Value.slice p36 k37 k38, Value.slice p39 k40 k41] ∧
 Wc Try.prog fLaw10Netpath [Value.agg { toList := [Value.int IntKind.i64 x35, Value.slice p36 k37 k38, Value.slice p39 k40 k41] }, Value.int IntKind.i64 0, Value.int IntKind.i64 2] m30 k31 fun (v42 : Value) (m43 : Mem) (k44 : Nat) =>
 ∃ (p45 : Option Addr), ∃ (k46 : Nat), ∃ (k47 : Nat), v42 = Value.slice p45 k46 k47 ∧ Later (memLet (Tr.set m43 k44 (AObj.cells none tInt 1 [Value.int IntKind.i64 1, Value.int IntKind.i64 3, Value.int IntKind.i64 2])) fun (m48 : Mem) => Wc Try.prog fKitSameint [Value.slice p45 k46 k47, Value.slice (some { block := k44, off := 0 }) 3 3] m48 (k44 + 1) fun (v49 : Value) (m50 : Mem) (k51 : Nat) => ∃ (b52 : Bool), v49 = Value.bool b52 ∧ Later (W Try.prog { fn := fLaw10SpfKnown, nt := 108, slots := [(1, Value.pointer x_1), (3, Value.pointer z_1), (4, Value.bool one), (5, Value.bool b52)], todo := pt Try.prog fLaw10SpfKnown [1, 1, 1, 1, 0] } m50 k51 Q))
 else W Try.prog { fn := fLaw10SpfKnown, nt := 108, slots := [(1, Value.pointer x_1), (3, Value.pointer z_1), (4, Value.bool one), (5, Value.bool false)], todo := pt Try.prog fLaw10SpfKnown [1, 1, 1, 1, 0] } m30 k31 Q)
 else W Try.prog { fn := fLaw10SpfKnown, nt := 108, slots := [(1, Value.pointer x_1), (3, Value.pointer z_1), (4, Value.bool one), (5, Value.bool false)], todo := pt Try.prog fLaw10SpfKnown [1, 1, 1, 1, 0] } m17 k18 Q))) := by kernel_rfl

theorem xLaw10SpfKnownk2 (m : Mem) (n : Nat) (Q : Value → Mem → Nat → Prop) (x_2 : Option Addr) (z_2 : Option Addr) (one_1 : Bool) (two : Bool) :
 xF (ev1 Try.prog xcfg 400) { fn := fLaw10SpfKnown, nt := 108, slots := [(1, Value.pointer x_2), (3, Value.pointer z_2), (4, Value.bool one_1), (5, Value.bool two)], todo := pt Try.prog fLaw10SpfKnown [1, 1, 1, 1, 0] } m n Q =
 (elimP z_2 False fun (k0 k1 : Nat) =>
 ∃ (x2 : Int),
 ∃ (p3 : Option Addr),
 ∃ (k4 : Nat),
 ∃ (k5 : Nat),
 ∃ (p6 : Option Addr),
 ∃ (k7 : Nat),
 ∃ (k8 : Nat),
 rds m k0 k1 3 = some [Value.int IntKind.i64 x2, Value.slice p3 k4 k5, Value.slice p6 k7 k8] ∧
 Wc Try.prog fLaw10Netdist [Value.agg { toList := [Value.int IntKind.i64 x2, Value.slice p3 k4 k5, Value.slice p6 k7 k8] }, Value.int IntKind.i64 0] m n fun (v9 : Value) (m10 : Mem) (k11 : Nat) =>
 ∃ (p12 : Option Addr),
 ∃ (k13 : Nat),
 ∃ (k14 : Nat),
 v9 = Value.slice p12 k13 k14 ∧
 Later
 (memLet (Tr.set m10 k11 (AObj.cells none tInt 1 [Value.int IntKind.i64 0, Value.int IntKind.i64 9, Value.int IntKind.i64 11, Value.int IntKind.i64 11, Value.int IntKind.i64 (-1)])) fun (m15 : Mem) =>
 Wc Try.prog fKitSameint [Value.slice p12 k13 k14, Value.slice (some { block := k11, off := 0 }) 5 5] m15 (k11 + 1) fun (v16 : Value) (m17 : Mem) (k18 : Nat) =>
 ∃ (b19 : Bool),
 v16 = Value.bool b19 ∧
 Later
 (bif b19 then
 elimP z_2 False fun (k20 k21 : Nat) =>
 ∃ (x22 : Int),
 ∃ (p23 : Option Addr),
 ∃ (k24 : Nat),
 ∃ (k25 : Nat),
 ∃ (p26 : Option Addr),
 ∃ (k27 : Nat),
 ∃ (k28 : Nat),
 rds m17 k20 k21 3 = some [Value.int IntKind.i64 x22, Value.slice p23 k24 k25, Value.slice p26 k27 k28] ∧
 Wc Try.prog fLaw10Netnext [Value.agg { toList := [Value.int IntKind.i64 x22, Value.slice p23 k24 k25, Value.slice p26 k27 k28] }, Value.int IntKind.i64 0, Value.int IntKind.i64 2] m17 k18 fun (v29 : Value) (m30 : Mem) (k31 : Nat) => ∃ (p32 : Option Addr), ∃ (k33 : Nat), ∃ (k34 : Nat), v29 = Value.slice p32 k33 k34 ∧ Later (memLet (Tr.set m30 k31 (AObj.cells none tInt 1 [Value.int IntKind.i64 5])) fun (m35 : Mem) => Wc Try.prog fKitSameint [Value.slice p32 k33 k34, Value.slice (some { block := k31, off := 0 }) 1 1] m35 (k31 + 1) fun (v36 : Value) (m37 : Mem) (k38 : Nat) => ∃ (b39 : Bool), v36 = Value.bool b39 ∧ Later (W Try.prog { fn := fLaw10SpfKnown, nt := 108, slots := [(1, Value.pointer x_2), (4, Value.bool one_1), (5, Value.bool two), (6, Value.bool b39)], todo := pt Try.prog fLaw10SpfKnown [1, 1, 1, 1, 1, 0] } m37 k38 Q))
 else W Try.prog { fn := fLaw10SpfKnown, nt := 108, slots := [(1, Value.pointer x_2), (4, Value.bool one_1), (5, Value.bool two), (6, Value.bool false)], todo := pt Try.prog fLaw10SpfKnown [1, 1, 1, 1, 1, 0] } m17 k18 Q))) := by kernel_rfl

theorem xLaw10SpfKnownk3 (m : Mem) (n : Nat) (Q : Value → Mem → Nat → Prop) (x_3 : Option Addr) (one_2 : Bool) (two_1 : Bool) (three : Bool) :
 xF (ev1 Try.prog xcfg 400) { fn := fLaw10SpfKnown, nt := 108, slots := [(1, Value.pointer x_3), (4, Value.bool one_2), (5, Value.bool two_1), (6, Value.bool three)], todo := pt Try.prog fLaw10SpfKnown [1, 1, 1, 1, 1, 0] } m n Q =
 (Wc Try.prog fLaw10five [Value.slice none 0 0] m n fun (v0 : Value) (m1 : Mem) (k2 : Nat) =>
 ∃ (x3 : Int),
 ∃ (p4 : Option Addr),
 ∃ (k5 : Nat),
 ∃ (k6 : Nat),
 ∃ (p7 : Option Addr),
 ∃ (k8 : Nat),
 ∃ (k9 : Nat),
 v0 = Value.agg { toList := [Value.int IntKind.i64 x3, Value.slice p4 k5 k6, Value.slice p7 k8 k9] } ∧
 Later
 (Wc Try.prog fLaw10five [Value.slice none 0 0] m1 k2 fun (v10 : Value) (m11 : Mem) (k12 : Nat) =>
 ∃ (x13 : Int),
 ∃ (p14 : Option Addr),
 ∃ (k15 : Nat),
 ∃ (k16 : Nat),
 ∃ (p17 : Option Addr),
 ∃ (k18 : Nat),
 ∃ (k19 : Nat),
 v10 = Value.agg { toList := [Value.int IntKind.i64 x13, Value.slice p14 k15 k16, Value.slice p17 k18 k19] } ∧
 Later
 (memLet (Tr.set m11 k12 (AObj.cells none tLaw10Net 3 [Value.int IntKind.i64 0, Value.slice none 0 0, Value.slice none 0 0])) fun (m20 : Mem) =>
 memLet (Tr.set m20 (k12 + 1) (AObj.cells none tLaw10Net 3 [Value.int IntKind.i64 0, Value.slice none 0 0, Value.slice none 0 0])) fun (m21 : Mem) =>
 ∃ (m22 : Mem),
 storeCs m21 k12 0 [Value.int IntKind.i64 x3, Value.slice p4 k5 k6, Value.slice p7 k8 k9] = some m22 ∧
 ∃ (m23 : Mem),
 storeCs m22 (k12 + 1) 0 [Value.int IntKind.i64 x13, Value.slice p14 k15 k16, Value.slice p17 k18 k19] = some m23 ∧
 isC m23 k12 = true ∧
 ∃ (p24 : Option Addr),
 ∃ (k25 : Nat),
 ∃ (k26 : Nat),
 rd m23 k12 2 = some (Value.slice p24 k25 k26) ∧
 elimA p24
 (((0 : Int) ≤ 5 ∧ 5 ≤ (↑k26 : Int)) ∧
 isC m23 k12 = true ∧ ∃ (m27 : Mem), storeCs m23 k12 2 [Value.slice none 5 (k26 - 0)] = some m27 ∧ isC m27 (k12 + 1) = true ∧ ∃ (p28 : Option Addr), ∃ (k29 : Nat), ∃ (k30 : Nat), rd m27 (k12 + 1) 1 = some (Value.slice p28 k29 k30) ∧ elimA p28 False fun (k31 k32 : Nat) (p33 : Option Nat) => ((0 : Int) ≤ 3 ∧ 3 < (↑k29 : Int) ∧ liveAt m27 k31 = true ∧ (p33 ≠ none → 0 < k30)) ∧ isC m27 k31 = true ∧ ∃ (m34 : Mem), storeCs m27 k31 (offOf k32 p33 + 9 + 2) [Value.int IntKind.i64 0] = some m34 ∧ W Try.prog { fn := fLaw10SpfKnown, nt := 108, slots := [(1, Value.pointer x_3), (4, Value.bool one_2), (5, Value.bool two_1), (6, Value.bool three), (7, Value.pointer (some { block := k12, off := 0 })), (8, Value.pointer (some { block := k12 + 1, off := 0 }))], todo := pt Try.prog fLaw10SpfKnown [1, 1, 1, 1, 1, 1, 1, 1, 0] } m34 (k12 + 1 + 1) Q)
 fun (k35 k36 : Nat) (p37 : Option Nat) =>
 ((0 : Int) ≤ 5 ∧ 5 ≤ (↑k26 : Int)) ∧
 elimM p37
 (isC m23 k12 = true ∧
 ∃ (m38 : Mem),
 storeCs m23 k12 2 [Value.slice (some { block := k35, off := if k26 = 0 then k36 else k36 + 0 }) 5 (k26 - 0)] = some m38 ∧
 isC m38 (k12 + 1) = true ∧ ∃ (p39 : Option Addr), ∃ (k40 : Nat), ∃ (k41 : Nat), rd m38 (k12 + 1) 1 = some (Value.slice p39 k40 k41) ∧ elimA p39 False fun (k42 k43 : Nat) (p44 : Option Nat) => ((0 : Int) ≤ 3 ∧ 3 < (↑k40 : Int) ∧ liveAt m38 k42 = true ∧ (p44 ≠ none → 0 < k41)) ∧ isC m38 k42 = true ∧ ∃ (m45 : Mem), storeCs m38 k42 (offOf k43 p44 + 9 + 2) [Value.int IntKind.i64 0] = some m45 ∧ W Try.prog { fn := fLaw10SpfKnown, nt := 108, slots := [(1, Value.pointer x_3), (4, Value.bool one_2), (5, Value.bool two_1), (6, Value.bool three), (7, Value.pointer (some { block := k12, off := 0 })), (8, Value.pointer (some { block := k12 + 1, off := 0 }))], todo := pt Try.prog fLaw10SpfKnown [1, 1, 1, 1, 1, 1, 1, 1, 0] } m45 (k12 + 1 + 1) Q)
 fun (k46 : Nat) =>
 (0 ≤ k26 ∧ 0 < k26) ∧
 isC m23 k12 = true ∧
 ∃ (m47 : Mem),
 storeCs m23 k12 2 [Value.slice (some { block := k35, off := if k26 = 0 then k46 else k46 + 0, spot := some (k46 + 0) }) 5 (k26 - 0)] = some m47 ∧
 isC m47 (k12 + 1) = true ∧ ∃ (p48 : Option Addr), ∃ (k49 : Nat), ∃ (k50 : Nat), rd m47 (k12 + 1) 1 = some (Value.slice p48 k49 k50) ∧ elimA p48 False fun (k51 k52 : Nat) (p53 : Option Nat) => ((0 : Int) ≤ 3 ∧ 3 < (↑k49 : Int) ∧ liveAt m47 k51 = true ∧ (p53 ≠ none → 0 < k50)) ∧ isC m47 k51 = true ∧ ∃ (m54 : Mem), storeCs m47 k51 (offOf k52 p53 + 9 + 2) [Value.int IntKind.i64 0] = some m54 ∧ W Try.prog { fn := fLaw10SpfKnown, nt := 108, slots := [(1, Value.pointer x_3), (4, Value.bool one_2), (5, Value.bool two_1), (6, Value.bool three), (7, Value.pointer (some { block := k12, off := 0 })), (8, Value.pointer (some { block := k12 + 1, off := 0 }))], todo := pt Try.prog fLaw10SpfKnown [1, 1, 1, 1, 1, 1, 1, 1, 0] } m54 (k12 + 1 + 1) Q))) := by kernel_rfl

theorem xLaw10SpfKnownk4 (m : Mem) (n : Nat) (Q : Value → Mem → Nat → Prop) (x_4 : Option Addr) (one_3 : Bool) (two_2 : Bool) (three_1 : Bool) (short : Option Addr) (free : Option Addr) :
 xF (ev1 Try.prog xcfg 400) { fn := fLaw10SpfKnown, nt := 108, slots := [(1, Value.pointer x_4), (4, Value.bool one_3), (5, Value.bool two_2), (6, Value.bool three_1), (7, Value.pointer short), (8, Value.pointer free)], todo := pt Try.prog fLaw10SpfKnown [1, 1, 1, 1, 1, 1, 1, 1, 0] } m n Q =
 (Wc Try.prog fLaw10awake [] m n fun (v0 : Value) (m1 : Mem) (k2 : Nat) =>
 ∃ (b3 : Bool),
 v0 = Value.bool b3 ∧
 Later
 (bif b3 then
 bif one_3 then
 bif two_2 then
 bif three_1 then
 elimP x_4 False fun (k4 k5 : Nat) =>
 ∃ (x6 : Int),
 ∃ (p7 : Option Addr),
 ∃ (k8 : Nat),
 ∃ (k9 : Nat),
 ∃ (p10 : Option Addr),
 ∃ (k11 : Nat),
 ∃ (k12 : Nat),
 rds m1 k4 k5 3 = some [Value.int IntKind.i64 x6, Value.slice p7 k8 k9, Value.slice p10 k11 k12] ∧
 Wc Try.prog fLaw10Netdist [Value.agg { toList := [Value.int IntKind.i64 x6, Value.slice p7 k8 k9, Value.slice p10 k11 k12] }, Value.int IntKind.i64 5] m1 k2 fun (v13 : Value) (m14 : Mem) (k15 : Nat) =>
 ∃ (p16 : Option Addr),
 ∃ (k17 : Nat),
 ∃ (k18 : Nat),
 v13 = Value.slice p16 k17 k18 ∧
 Later
 (bif (↑k17 : Int) == 0 then
 elimP short False fun (k19 k20 : Nat) =>
 ∃ (x21 : Int),
 ∃ (p22 : Option Addr),
 ∃ (k23 : Nat),
 ∃ (k24 : Nat),
 ∃ (p25 : Option Addr),
 ∃ (k26 : Nat),
 ∃ (k27 : Nat),
 rds m14 k19 k20 3 = some [Value.int IntKind.i64 x21, Value.slice p22 k23 k24, Value.slice p25 k26 k27] ∧
 Wc Try.prog fLaw10Netnext [Value.agg { toList := [Value.int IntKind.i64 x21, Value.slice p22 k23 k24, Value.slice p25 k26 k27] }, Value.int IntKind.i64 0, Value.int IntKind.i64 1] m14 k15 fun (v28 : Value) (m29 : Mem) (k30 : Nat) =>
 ∃ (p31 : Option Addr), ∃ (k32 : Nat), ∃ (k33 : Nat), v28 = Value.slice p31 k32 k33 ∧ Later (bif (↑k32 : Int) == 0 then elimP free False fun (k34 k35 : Nat) => ∃ (x36 : Int), ∃ (p37 : Option Addr), ∃ (k38 : Nat), ∃ (k39 : Nat), ∃ (p40 : Option Addr), ∃ (k41 : Nat), ∃ (k42 : Nat), rds m29 k34 k35 3 = some [Value.int IntKind.i64 x36, Value.slice p37 k38 k39, Value.slice p40 k41 k42] ∧ Wc Try.prog fLaw10Netpaths [Value.agg { toList := [Value.int IntKind.i64 x36, Value.slice p37 k38 k39, Value.slice p40 k41 k42] }, Value.int IntKind.i64 0, Value.int IntKind.i64 1] m29 k30 fun (v43 : Value) (m44 : Mem) (k45 : Nat) => ∃ (x46 : Int), v43 = Value.int IntKind.i64 x46 ∧ Later (Q (Value.bool (x46 == 0)) m44 k45) else Q (Value.bool false) m29 k30)
 else Q (Value.bool false) m14 k15)
 else Q (Value.bool false) m1 k2
 else Q (Value.bool false) m1 k2
 else Q (Value.bool false) m1 k2
 else Q (Value.bool false) m1 k2)) := by kernel_rfl

/- 6 leafmesh/leafmeshlaw10.SpfBellman -/
theorem xLaw10SpfBellman (m : Mem) (n : Nat) (Q : Value → Mem → Nat → Prop) (x0 : Int) (x1_a : Option Addr) (x1_l : Nat) (x1_c : Nat) (x2_a : Option Addr) (x2_l : Nat) (x2_c : Nat) (from' : Int) :
 Xc Try.prog xcfg 400 fLaw10SpfBellman [Value.agg { toList := [Value.int IntKind.i64 x0, Value.slice x1_a x1_l x1_c, Value.slice x2_a x2_l x2_c] }, Value.int IntKind.i64 from'] m n Q =
 (memLet (Tr.set m n (AObj.cells none tLaw10Net 3 [Value.int IntKind.i64 x0, Value.slice x1_a x1_l x1_c, Value.slice x2_a x2_l x2_c])) fun (m0 : Mem) =>
 Wc Try.prog fLaw10SpfKnown [] m0 (n + 1) fun (v1 : Value) (m2 : Mem) (k3 : Nat) =>
 ∃ (b4 : Bool),
 v1 = Value.bool b4 ∧
 Later
 (∃ (x5 : Int),
 ∃ (p6 : Option Addr),
 ∃ (k7 : Nat),
 ∃ (k8 : Nat),
 ∃ (p9 : Option Addr),
 ∃ (k10 : Nat),
 ∃ (k11 : Nat),
 rds m2 n 0 3 = some [Value.int IntKind.i64 x5, Value.slice p6 k7 k8, Value.slice p9 k10 k11] ∧
 Wc Try.prog fLaw10valid [Value.agg { toList := [Value.int IntKind.i64 x5, Value.slice p6 k7 k8, Value.slice p9 k10 k11] }] m2 k3 fun (v12 : Value) (m13 : Mem) (k14 : Nat) =>
 ∃ (b15 : Bool),
 v12 = Value.bool b15 ∧
 Later
 (bif !b15 then Q (Value.bool b4) m13 k14
 else
 isC m13 n = true ∧
 ∃ (x16 : Int),
 rd m13 n 0 = some (Value.int IntKind.i64 x16) ∧
 Wc Try.prog fKitPick [Value.int IntKind.i64 from', Value.int IntKind.i64 x16] m13 k14 fun (v17 : Value) (m18 : Mem) (k19 : Nat) =>
 ∃ (x20 : Int),
 v17 = Value.int IntKind.i64 x20 ∧
 Later
 (∃ (x21 : Int),
 ∃ (p22 : Option Addr),
 ∃ (k23 : Nat),
 ∃ (k24 : Nat),
 ∃ (p25 : Option Addr),
 ∃ (k26 : Nat),
 ∃ (k27 : Nat),
 rds m18 n 0 3 = some [Value.int IntKind.i64 x21, Value.slice p22 k23 k24, Value.slice p25 k26 k27] ∧
 Wc Try.prog fLaw10Netdist [Value.agg { toList := [Value.int IntKind.i64 x21, Value.slice p22 k23 k24, Value.slice p25 k26 k27] }, Value.int IntKind.i64 x20] m18 k19 fun (v28 : Value) (m29 : Mem) (k30 : Nat) =>
 ∃ (p31 : Option Addr),
 ∃ (k32 : Nat),
 ∃ (k33 : Nat),
 v28 = Value.slice p31 k32 k33 ∧
 Later
 (isC m29 n = true ∧
 ∃ (x34 : Int),
 rd m29 n 0 = some (Value.int IntKind.i64 x34) ∧
 bif (↑k32 : Int) != x34 then Q (Value.bool false) m29 k30
 else
 elimA p31 False fun (k35 k36 : Nat) (p37 : Option Nat) =>
 (0 ≤ x20 ∧ x20 < (↑k32 : Int) ∧ liveAt m29 k35 = true ∧ (p37 ≠ none → 0 < k33)) ∧
 ∃ (x38 : Int), rd m29 k35 (offOf k36 p37 + x20.toNat * 1) = some (Value.int IntKind.i64 x38) ∧ bif x38 != 0 then Q (Value.bool false) m29 k30 else isC m29 n = true ∧ ∃ (x39 : Int), rd m29 n 0 = some (Value.int IntKind.i64 x39) ∧ (0 ≤ x39 ∧ x39 ≤ x39 ∧ 2 * x39 ≤ 281474976710656) ∧ memLet (Tr.set m29 k30 (AObj.cells none tBool 1 (List.replicate x39.toNat [Value.bool false]).flatten)) fun (m40 : Mem) => W Try.prog { fn := fLaw10SpfBellman, nt := 146, slots := [(1, Value.int IntKind.i64 x20), (2, Value.pointer (some { block := n, off := 0 })), (5, Value.bool b4), (6, Value.slice p31 k32 k33), (7, Value.slice (some { block := k30, off := 0 }) x39.toNat x39.toNat), (8, Value.int IntKind.i64 0)], todo := pt Try.prog fLaw10SpfBellman [1, 1, 1, 1, 1, 1, 1, 0, 1, 0, 0] } m40 (k30 + 1) Q))))) := by kernel_rfl

theorem xLaw10SpfBellmank0 (m : Mem) (n : Nat) (Q : Value → Mem → Nat → Prop) (from'_1 : Int) (x : Nat) (ok : Bool) (d_a : Option Addr) (d_l : Nat) (d_c : Nat) (reached_a : Option Addr) (reached_l : Nat) (reached_c : Nat) (i : Int) :
 xF (evX Try.prog xcfg 400) { fn := fLaw10SpfBellman, nt := 146, slots := [(1, Value.int IntKind.i64 from'_1), (2, Value.pointer (some { block := x, off := 0 })), (5, Value.bool ok), (6, Value.slice d_a d_l d_c), (7, Value.slice reached_a reached_l reached_c), (8, Value.int IntKind.i64 i)], todo := pt Try.prog fLaw10SpfBellman [1, 1, 1, 1, 1, 1, 1, 0, 1, 0, 0] } m n Q =
 (isC m x = true ∧
 ∃ (p0 : Option Addr),
 ∃ (k1 : Nat),
 ∃ (k2 : Nat),
 rd m x 1 = some (Value.slice p0 k1 k2) ∧
 bif decide (i < (↑k1 : Int)) then
 isC m x = true ∧
 ∃ (p3 : Option Addr),
 ∃ (k4 : Nat),
 ∃ (k5 : Nat),
 rd m x 1 = some (Value.slice p3 k4 k5) ∧
 elimA p3 False fun (k6 k7 : Nat) (p8 : Option Nat) =>
 (0 ≤ i ∧ i < (↑k4 : Int) ∧ liveAt m k6 = true ∧ (p8 ≠ none → 0 < k5)) ∧
 ∃ (x9 : Int),
 ∃ (x10 : Int),
 ∃ (x11 : Int),
 rds m k6 (offOf k7 p8 + i.toNat * 3) 3 = some [Value.int IntKind.i64 x9, Value.int IntKind.i64 x10, Value.int IntKind.i64 x11] ∧
 memLet (Tr.set m n (AObj.cells none tApiLink 3 [Value.int IntKind.i64 0, Value.int IntKind.i64 0, Value.int IntKind.i64 0])) fun (m12 : Mem) =>
 ∃ (m13 : Mem),
 storeCs m12 n 0 [Value.int IntKind.i64 x9, Value.int IntKind.i64 x10, Value.int IntKind.i64 x11] = some m13 ∧
 isC m13 x = true ∧
 ∃ (p14 : Option Addr),
 ∃ (k15 : Nat),
 ∃ (k16 : Nat),
 rd m13 x 2 = some (Value.slice p14 k15 k16) ∧
 elimA p14 False fun (k17 k18 : Nat) (p19 : Option Nat) =>
 (0 ≤ i ∧ i < (↑k15 : Int) ∧ liveAt m13 k17 = true ∧ (p19 ≠ none → 0 < k16)) ∧
 ∃ (b20 : Bool),
 rd m13 k17 (offOf k18 p19 + i.toNat * 1) = some (Value.bool b20) ∧
 bif !b20 then W Try.prog { fn := fLaw10SpfBellman, nt := 146, slots := [(1, Value.int IntKind.i64 from'_1), (2, Value.pointer (some { block := x, off := 0 })), (5, Value.bool ok), (6, Value.slice d_a d_l d_c), (7, Value.slice reached_a reached_l reached_c), (8, Value.int IntKind.i64 (IntKind.i64.wrap (i + 1)))], todo := pt Try.prog fLaw10SpfBellman [1, 1, 1, 1, 1, 1, 1, 0, 1, 0, 0] } m13 (n + 1) Q
 else
 isC m13 n = true ∧
 ∃ (x21 : Int),
 rd m13 n 0 = some (Value.int IntKind.i64 x21) ∧
 elimA d_a False fun (k22 k23 : Nat) (p24 : Option Nat) =>
 (0 ≤ x21 ∧ x21 < (↑d_l : Int) ∧ liveAt m13 k22 = true ∧ (p24 ≠ none → 0 < d_c)) ∧
 ∃ (x25 : Int),
 rd m13 k22 (offOf k23 p24 + x21.toNat * 1) = some (Value.int IntKind.i64 x25) ∧
 isC m13 n = true ∧
 ∃ (x26 : Int),
 rd m13 n 1 = some (Value.int IntKind.i64 x26) ∧
 elimA d_a False fun (k27 k28 : Nat) (p29 : Option Nat) =>
 (0 ≤ x26 ∧ x26 < (↑d_l : Int) ∧ liveAt m13 k27 = true ∧ (p29 ≠ none → 0 < d_c)) ∧
 ∃ (x30 : Int),
 rd m13 k27 (offOf k28 p29 + x26.toNat * 1) = some (Value.int IntKind.i64 x30) ∧
 bif !decide (x25 < 0) == decide (x30 < 0) then Q (Value.bool false) m13 (n + 1 + 12)
 else
 isC m13 n = true ∧
 ∃ (x31 : Int),
 rd m13 n 2 = some (Value.int IntKind.i64 x31) ∧
 bif decide (IntKind.i64.wrap (x25 - x30) > x31) then Q (Value.bool false) m13 (n + 1 + 12)
 else
 isC m13 n = true ∧
 ∃ (x32 : Int),
 rd m13 n 2 = some (Value.int IntKind.i64 x32) ∧
 bif decide (IntKind.i64.wrap (x30 - x25) > x32) then Q (Value.bool false) m13 (n + 1 + 12)
 else
 bif decide (x25 ≥ 0) then
 isC m13 n = true ∧
 ∃ (x33 : Int),
 rd m13 n 2 = some (Value.int IntKind.i64 x33) ∧
 bif IntKind.i64.wrap (x25 - x30) == x33 then
 isC m13 n = true ∧
 ∃ (x34 : Int),
 rd m13 n 0 = some (Value.int IntKind.i64 x34) ∧
 elimA reached_a False fun (k35 k36 : Nat) (p37 : Option Nat) => (0 ≤ x34 ∧ x34 < (↑reached_l : Int) ∧ liveAt m13 k35 = true ∧ (p37 ≠ none → 0 < reached_c)) ∧ ∃ (m38 : Mem), storeCs m13 k35 (offOf k36 p37 + x34.toNat * 1) [Value.bool true] = some m38 ∧ W Try.prog { fn := fLaw10SpfBellman, nt := 146, slots := [(1, Value.int IntKind.i64 from'_1), (2, Value.pointer (some { block := x, off := 0 })), (5, Value.bool ok), (6, Value.slice d_a d_l d_c), (7, Value.slice reached_a reached_l reached_c), (8, Value.int IntKind.i64 i), (9, Value.pointer (some { block := n, off := 0 })), (10, Value.int IntKind.i64 x25), (11, Value.int IntKind.i64 x30)], todo := pt Try.prog fLaw10SpfBellman [1, 1, 1, 1, 1, 1, 1, 0, 1, 0, 0, 1, 0, 0, 1, 1, 1, 1, 1, 0] } m38 (n + 1 + 12) Q
 else W Try.prog { fn := fLaw10SpfBellman, nt := 146, slots := [(1, Value.int IntKind.i64 from'_1), (2, Value.pointer (some { block := x, off := 0 })), (5, Value.bool ok), (6, Value.slice d_a d_l d_c), (7, Value.slice reached_a reached_l reached_c), (8, Value.int IntKind.i64 i), (9, Value.pointer (some { block := n, off := 0 })), (10, Value.int IntKind.i64 x25), (11, Value.int IntKind.i64 x30)], todo := pt Try.prog fLaw10SpfBellman [1, 1, 1, 1, 1, 1, 1, 0, 1, 0, 0, 1, 0, 0, 1, 1, 1, 1, 1, 0] } m13 (n + 1 + 12) Q
 else W Try.prog { fn := fLaw10SpfBellman, nt := 146, slots := [(1, Value.int IntKind.i64 from'_1), (2, Value.pointer (some { block := x, off := 0 })), (5, Value.bool ok), (6, Value.slice d_a d_l d_c), (7, Value.slice reached_a reached_l reached_c), (8, Value.int IntKind.i64 i), (9, Value.pointer (some { block := n, off := 0 })), (10, Value.int IntKind.i64 x25), (11, Value.int IntKind.i64 x30)], todo := pt Try.prog fLaw10SpfBellman [1, 1, 1, 1, 1, 1, 1, 0, 1, 0, 0, 1, 0, 0, 1, 1, 1, 1, 1, 0] } m13 (n + 1 + 12) Q
 else W Try.prog { fn := fLaw10SpfBellman, nt := 146, slots := [(1, Value.int IntKind.i64 from'_1), (2, Value.pointer (some { block := x, off := 0 })), (5, Value.bool ok), (6, Value.slice d_a d_l d_c), (7, Value.slice reached_a reached_l reached_c), (12, Value.int IntKind.i64 0)], todo := pt Try.prog fLaw10SpfBellman [1, 1, 1, 1, 1, 1, 1, 1, 0, 1, 0, 0] } m n Q) := by kernel_rfl

theorem xLaw10SpfBellmank1 (m : Mem) (n : Nat) (Q : Value → Mem → Nat → Prop) (from'_2 : Int) (x_1 : Option Addr) (ok_1 : Bool) (d_a_1 : Option Addr) (d_l_1 : Nat) (d_c_1 : Nat) (reached_a_1 : Option Addr) (reached_l_1 : Nat) (reached_c_1 : Nat) (i_1 : Int) (l : Option Addr) (a : Int) (b : Int) :
 xF (ev1 Try.prog xcfg 400) { fn := fLaw10SpfBellman, nt := 146, slots := [(1, Value.int IntKind.i64 from'_2), (2, Value.pointer x_1), (5, Value.bool ok_1), (6, Value.slice d_a_1 d_l_1 d_c_1), (7, Value.slice reached_a_1 reached_l_1 reached_c_1), (8, Value.int IntKind.i64 i_1), (9, Value.pointer l), (10, Value.int IntKind.i64 a), (11, Value.int IntKind.i64 b)], todo := pt Try.prog fLaw10SpfBellman [1, 1, 1, 1, 1, 1, 1, 0, 1, 0, 0, 1, 0, 0, 1, 1, 1, 1, 1, 0] } m n Q =
 (bif decide (a ≥ 0) then
 elimP l False fun (k0 k1 : Nat) =>
 isC m k0 = true ∧
 ∃ (x2 : Int),
 rd m k0 (k1 + 2) = some (Value.int IntKind.i64 x2) ∧
 bif IntKind.i64.wrap (b - a) == x2 then elimP l False fun (k3 k4 : Nat) => isC m k3 = true ∧ ∃ (x5 : Int), rd m k3 (k4 + 1) = some (Value.int IntKind.i64 x5) ∧ elimA reached_a_1 False fun (k6 k7 : Nat) (p8 : Option Nat) => (0 ≤ x5 ∧ x5 < (↑reached_l_1 : Int) ∧ liveAt m k6 = true ∧ (p8 ≠ none → 0 < reached_c_1)) ∧ ∃ (m9 : Mem), storeCs m k6 (offOf k7 p8 + x5.toNat * 1) [Value.bool true] = some m9 ∧ W Try.prog { fn := fLaw10SpfBellman, nt := 146, slots := [(1, Value.int IntKind.i64 from'_2), (2, Value.pointer x_1), (5, Value.bool ok_1), (6, Value.slice d_a_1 d_l_1 d_c_1), (7, Value.slice reached_a_1 reached_l_1 reached_c_1), (8, Value.int IntKind.i64 (IntKind.i64.wrap (i_1 + 1)))], todo := pt Try.prog fLaw10SpfBellman [1, 1, 1, 1, 1, 1, 1, 0, 1, 0, 0] } m9 n Q
 else W Try.prog { fn := fLaw10SpfBellman, nt := 146, slots := [(1, Value.int IntKind.i64 from'_2), (2, Value.pointer x_1), (5, Value.bool ok_1), (6, Value.slice d_a_1 d_l_1 d_c_1), (7, Value.slice reached_a_1 reached_l_1 reached_c_1), (8, Value.int IntKind.i64 (IntKind.i64.wrap (i_1 + 1)))], todo := pt Try.prog fLaw10SpfBellman [1, 1, 1, 1, 1, 1, 1, 0, 1, 0, 0] } m n Q
 else W Try.prog { fn := fLaw10SpfBellman, nt := 146, slots := [(1, Value.int IntKind.i64 from'_2), (2, Value.pointer x_1), (5, Value.bool ok_1), (6, Value.slice d_a_1 d_l_1 d_c_1), (7, Value.slice reached_a_1 reached_l_1 reached_c_1), (8, Value.int IntKind.i64 (IntKind.i64.wrap (i_1 + 1)))], todo := pt Try.prog fLaw10SpfBellman [1, 1, 1, 1, 1, 1, 1, 0, 1, 0, 0] } m n Q) := by kernel_rfl

theorem xLaw10SpfBellmank2 (m : Mem) (n : Nat) (Q : Value → Mem → Nat → Prop) (from'_1 : Int) (x : Nat) (ok : Bool) (d_a : Option Addr) (d_l : Nat) (d_c : Nat) (reached_a : Option Addr) (reached_l : Nat) (reached_c : Nat) (n' : Int) :
 xF (evX Try.prog xcfg 400) { fn := fLaw10SpfBellman, nt := 146, slots := [(1, Value.int IntKind.i64 from'_1), (2, Value.pointer (some { block := x, off := 0 })), (5, Value.bool ok), (6, Value.slice d_a d_l d_c), (7, Value.slice reached_a reached_l reached_c), (12, Value.int IntKind.i64 n')], todo := pt Try.prog fLaw10SpfBellman [1, 1, 1, 1, 1, 1, 1, 1, 0, 1, 0, 0] } m n Q =
 (isC m x = true ∧
 ∃ (x0 : Int),
 rd m x 0 = some (Value.int IntKind.i64 x0) ∧
 bif decide (n' < x0) then
 bif n' != from'_1 then
 elimA d_a False fun (k1 k2 : Nat) (p3 : Option Nat) =>
 (0 ≤ n' ∧ n' < (↑d_l : Int) ∧ liveAt m k1 = true ∧ (p3 ≠ none → 0 < d_c)) ∧
 ∃ (x4 : Int),
 rd m k1 (offOf k2 p3 + n'.toNat * 1) = some (Value.int IntKind.i64 x4) ∧
 elimA reached_a False fun (k5 k6 : Nat) (p7 : Option Nat) =>
 (0 ≤ n' ∧ n' < (↑reached_l : Int) ∧ liveAt m k5 = true ∧ (p7 ≠ none → 0 < reached_c)) ∧
 ∃ (b8 : Bool), rd m k5 (offOf k6 p7 + n'.toNat * 1) = some (Value.bool b8) ∧ bif !decide (x4 ≥ 0) == b8 then Q (Value.bool false) m (n + 22) else elimA d_a False fun (k9 k10 : Nat) (p11 : Option Nat) => (0 ≤ n' ∧ n' < (↑d_l : Int) ∧ liveAt m k9 = true ∧ (p11 ≠ none → 0 < d_c)) ∧ ∃ (x12 : Int), rd m k9 (offOf k10 p11 + n'.toNat * 1) = some (Value.int IntKind.i64 x12) ∧ bif decide (x12 < -1) then Q (Value.bool false) m (n + 22) else W Try.prog { fn := fLaw10SpfBellman, nt := 146, slots := [(1, Value.int IntKind.i64 from'_1), (2, Value.pointer (some { block := x, off := 0 })), (5, Value.bool ok), (6, Value.slice d_a d_l d_c), (7, Value.slice reached_a reached_l reached_c), (12, Value.int IntKind.i64 (IntKind.i64.wrap (n' + 1)))], todo := pt Try.prog fLaw10SpfBellman [1, 1, 1, 1, 1, 1, 1, 1, 0, 1, 0, 0] } m (n + 22) Q
 else elimA d_a False fun (k13 k14 : Nat) (p15 : Option Nat) => (0 ≤ n' ∧ n' < (↑d_l : Int) ∧ liveAt m k13 = true ∧ (p15 ≠ none → 0 < d_c)) ∧ ∃ (x16 : Int), rd m k13 (offOf k14 p15 + n'.toNat * 1) = some (Value.int IntKind.i64 x16) ∧ bif decide (x16 < -1) then Q (Value.bool false) m (n + 22) else W Try.prog { fn := fLaw10SpfBellman, nt := 146, slots := [(1, Value.int IntKind.i64 from'_1), (2, Value.pointer (some { block := x, off := 0 })), (5, Value.bool ok), (6, Value.slice d_a d_l d_c), (7, Value.slice reached_a reached_l reached_c), (12, Value.int IntKind.i64 (IntKind.i64.wrap (n' + 1)))], todo := pt Try.prog fLaw10SpfBellman [1, 1, 1, 1, 1, 1, 1, 1, 0, 1, 0, 0] } m (n + 22) Q
 else Q (Value.bool ok) m n) := by kernel_rfl

/- 7 leafmesh/leafmeshlaw10.SpfTriangle -/
theorem xLaw10SpfTriangle (m : Mem) (n : Nat) (Q : Value → Mem → Nat → Prop) (x0 : Int) (x1_a : Option Addr) (x1_l : Nat) (x1_c : Nat) (x2_a : Option Addr) (x2_l : Nat) (x2_c : Nat) (a : Int) (b : Int) (c : Int) :
 Xc Try.prog xcfg 400 fLaw10SpfTriangle [Value.agg { toList := [Value.int IntKind.i64 x0, Value.slice x1_a x1_l x1_c, Value.slice x2_a x2_l x2_c] }, Value.int IntKind.i64 a, Value.int IntKind.i64 b, Value.int IntKind.i64 c] m n Q =
 (memLet (Tr.set m n (AObj.cells none tLaw10Net 3 [Value.int IntKind.i64 x0, Value.slice x1_a x1_l x1_c, Value.slice x2_a x2_l x2_c])) fun (m0 : Mem) =>
 Wc Try.prog fLaw10SpfKnown [] m0 (n + 1) fun (v1 : Value) (m2 : Mem) (k3 : Nat) =>
 ∃ (b4 : Bool),
 v1 = Value.bool b4 ∧
 Later
 (∃ (x5 : Int),
 ∃ (p6 : Option Addr),
 ∃ (k7 : Nat),
 ∃ (k8 : Nat),
 ∃ (p9 : Option Addr),
 ∃ (k10 : Nat),
 ∃ (k11 : Nat),
 rds m2 n 0 3 = some [Value.int IntKind.i64 x5, Value.slice p6 k7 k8, Value.slice p9 k10 k11] ∧
 Wc Try.prog fLaw10valid [Value.agg { toList := [Value.int IntKind.i64 x5, Value.slice p6 k7 k8, Value.slice p9 k10 k11] }] m2 k3 fun (v12 : Value) (m13 : Mem) (k14 : Nat) =>
 ∃ (b15 : Bool),
 v12 = Value.bool b15 ∧
 Later
 (bif !b15 then Q (Value.bool b4) m13 k14
 else
 isC m13 n = true ∧
 ∃ (x16 : Int),
 rd m13 n 0 = some (Value.int IntKind.i64 x16) ∧
 ∃ (x17 : Int),
 ∃ (m18 : Mem),
 ∃ (k19 : Nat),
 (Wc Try.prog fKitPick [Value.int IntKind.i64 a, Value.int IntKind.i64 x16] m13 (k14 + 15) fun (v20 : Value) (m21 : Mem) (k22 : Nat) => v20 = Value.int IntKind.i64 x17 ∧ m21 = m18 ∧ k22 = k19) ∧
 Later
 (isC m18 n = true ∧
 ∃ (x23 : Int),
 rd m18 n 0 = some (Value.int IntKind.i64 x23) ∧
 ∃ (x24 : Int),
 ∃ (m25 : Mem),
 ∃ (k26 : Nat),
 (Wc Try.prog fKitPick [Value.int IntKind.i64 b, Value.int IntKind.i64 x23] m18 k19 fun (v27 : Value) (m28 : Mem) (k29 : Nat) => v27 = Value.int IntKind.i64 x24 ∧ m28 = m25 ∧ k29 = k26) ∧
 Later
 (isC m25 n = true ∧
 ∃ (x30 : Int),
 rd m25 n 0 = some (Value.int IntKind.i64 x30) ∧
 ∃ (x31 : Int),
 ∃ (m32 : Mem),
 ∃ (k33 : Nat),
 (Wc Try.prog fKitPick [Value.int IntKind.i64 c, Value.int IntKind.i64 x30] m25 k26 fun (v34 : Value) (m35 : Mem) (k36 : Nat) => v34 = Value.int IntKind.i64 x31 ∧ m35 = m32 ∧ k36 = k33) ∧
 Later
 ((∃ (x37 : Int), rd m13 n 0 = some (Value.int IntKind.i64 x37) ∧ Value.int IntKind.i64 x37 = Value.int IntKind.i64 x30) ∧
 (∃ (x38 : Int), rd m18 n 0 = some (Value.int IntKind.i64 x38) ∧ Value.int IntKind.i64 x38 = Value.int IntKind.i64 x30) ∧
 (isC m13 n = true ∧ Value.pointer (some { block := n, off := 0 }) = Value.pointer (some { block := n, off := 0 })) ∧
 (isC m18 n = true ∧ Value.pointer (some { block := n, off := 0 }) = Value.pointer (some { block := n, off := 0 })) ∧
 (∃ (x39 : Int), rd m13 n 0 = some (Value.int IntKind.i64 x39) ∧ Value.int IntKind.i64 x39 = Value.int IntKind.i64 x23) ∧
 (isC m13 n = true ∧ Value.pointer (some { block := n, off := 0 }) = Value.pointer (some { block := n, off := 0 })) ∧
 k14 + 15 ≤ k19 ∧
 k14 + 15 ≤ k26 ∧
 k14 + 15 ≤ k33 ∧
 ∃ (x40 : Int),
 ∃ (p41 : Option Addr),
 ∃ (k42 : Nat),
 ∃ (k43 : Nat),
 ∃ (p44 : Option Addr),
 ∃ (k45 : Nat),
 ∃ (k46 : Nat),
 rds m32 n 0 3 = some [Value.int IntKind.i64 x40, Value.slice p41 k42 k43, Value.slice p44 k45 k46] ∧
 ∃ (p47 : Option Addr),
 ∃ (k48 : Nat),
 ∃ (k49 : Nat),
 ∃ (m50 : Mem),
 ∃ (k51 : Nat),
 (Wc Try.prog fLaw10Netdist [Value.agg { toList := [Value.int IntKind.i64 x40, Value.slice p41 k42 k43, Value.slice p44 k45 k46] }, Value.int IntKind.i64 x17] m32 (k33 + 8) fun (v52 : Value) (m53 : Mem) (k54 : Nat) => v52 = Value.slice p47 k48 k49 ∧ m53 = m50 ∧ k54 = k51) ∧
 Later
 (∃ (x55 : Int),
 ∃ (p56 : Option Addr),
 ∃ (k57 : Nat),
 ∃ (k58 : Nat),
 ∃ (p59 : Option Addr),
 ∃ (k60 : Nat),
 ∃ (k61 : Nat),
 rds m50 n 0 3 = some [Value.int IntKind.i64 x55, Value.slice p56 k57 k58, Value.slice p59 k60 k61] ∧
 ∃ (p62 : Option Addr),
 ∃ (k63 : Nat),
 ∃ (k64 : Nat),
 ∃ (m65 : Mem),
 ∃ (k66 : Nat),
 (Wc Try.prog fLaw10Netdist [Value.agg { toList := [Value.int IntKind.i64 x55, Value.slice p56 k57 k58, Value.slice p59 k60 k61] }, Value.int IntKind.i64 x24] m50 k51 fun (v67 : Value) (m68 : Mem) (k69 : Nat) => v67 = Value.slice p62 k63 k64 ∧ m68 = m65 ∧ k69 = k66) ∧
 Later
 ((∃ (x70 : Int), ∃ (p71 : Option Addr), ∃ (k72 : Nat), ∃ (k73 : Nat), ∃ (p74 : Option Addr), ∃ (k75 : Nat), ∃ (k76 : Nat), rds m32 n 0 3 = some [Value.int IntKind.i64 x70, Value.slice p71 k72 k73, Value.slice p74 k75 k76] ∧ Value.agg { toList := [Value.int IntKind.i64 x70, Value.slice p71 k72 k73, Value.slice p74 k75 k76] } = Value.agg { toList := [Value.int IntKind.i64 x55, Value.slice p56 k57 k58, Value.slice p59 k60 k61] }) ∧
 k33 + 8 ≤ k51 ∧
 k33 + 8 ≤ k66 ∧
 isC m65 n = true ∧
 ∃ (x77 : Int),
 rd m65 n 0 = some (Value.int IntKind.i64 x77) ∧
 bif (↑k48 : Int) != x77 then Q (Value.bool false) m65 (k66 + 23)
 else
 isC m65 n = true ∧
 ∃ (x78 : Int),
 rd m65 n 0 = some (Value.int IntKind.i64 x78) ∧
 bif (↑k63 : Int) != x78 then Q (Value.bool false) m65 (k66 + 23)
 else
 elimA p47 False fun (k79 k80 : Nat) (p81 : Option Nat) =>
 (0 ≤ x24 ∧ x24 < (↑k48 : Int) ∧ liveAt m65 k79 = true ∧ (p81 ≠ none → 0 < k49)) ∧
 ∃ (x82 : Int),
 rd m65 k79 (offOf k80 p81 + x24.toNat * 1) = some (Value.int IntKind.i64 x82) ∧
 elimA p62 False fun (k83 k84 : Nat) (p85 : Option Nat) =>
 (0 ≤ x17 ∧ x17 < (↑k63 : Int) ∧ liveAt m65 k83 = true ∧ (p85 ≠ none → 0 < k64)) ∧
 ∃ (x86 : Int),
 rd m65 k83 (offOf k84 p85 + x17.toNat * 1) = some (Value.int IntKind.i64 x86) ∧
 bif x82 != x86 then Q (Value.bool false) m65 (k66 + 23)
 else
 elimA p47 False fun (k87 k88 : Nat) (p89 : Option Nat) =>
 (0 ≤ x24 ∧ x24 < (↑k48 : Int) ∧ liveAt m65 k87 = true ∧ (p89 ≠ none → 0 < k49)) ∧
 ∃ (x90 : Int),
 rd m65 k87 (offOf k88 p89 + x24.toNat * 1) = some (Value.int IntKind.i64 x90) ∧
 bif decide (x90 ≥ 0) then
 elimA p62 False fun (k91 k92 : Nat) (p93 : Option Nat) =>
 (0 ≤ x31 ∧ x31 < (↑k63 : Int) ∧ liveAt m65 k91 = true ∧ (p93 ≠ none → 0 < k64)) ∧
 ∃ (x94 : Int),
 rd m65 k91 (offOf k92 p93 + x31.toNat * 1) = some (Value.int IntKind.i64 x94) ∧
 bif decide (x94 ≥ 0) then
 elimA p47 False fun (k95 k96 : Nat) (p97 : Option Nat) =>
 (0 ≤ x31 ∧ x31 < (↑k48 : Int) ∧ liveAt m65 k95 = true ∧ (p97 ≠ none → 0 < k49)) ∧
 ∃ (x98 : Int),
 rd m65 k95 (offOf k96 p97 + x31.toNat * 1) = some (Value.int IntKind.i64 x98) ∧
 bif decide (x98 < 0) then Q (Value.bool false) m65 (k66 + 23 + 35)
 else
 elimA p47 False fun (k99 k100 : Nat) (p101 : Option Nat) =>
 (0 ≤ x31 ∧ x31 < (↑k48 : Int) ∧ liveAt m65 k99 = true ∧ (p101 ≠ none → 0 < k49)) ∧
 ∃ (x102 : Int),
 rd m65 k99 (offOf k100 p101 + x31.toNat * 1) = some (Value.int IntKind.i64 x102) ∧
 elimA p47 False fun (k103 k104 : Nat) (p105 : Option Nat) => (0 ≤ x24 ∧ x24 < (↑k48 : Int) ∧ liveAt m65 k103 = true ∧ (p105 ≠ none → 0 < k49)) ∧ ∃ (x106 : Int), rd m65 k103 (offOf k104 p105 + x24.toNat * 1) = some (Value.int IntKind.i64 x106) ∧ elimA p62 False fun (k107 k108 : Nat) (p109 : Option Nat) => (0 ≤ x31 ∧ x31 < (↑k63 : Int) ∧ liveAt m65 k107 = true ∧ (p109 ≠ none → 0 < k64)) ∧ ∃ (x110 : Int), rd m65 k107 (offOf k108 p109 + x31.toNat * 1) = some (Value.int IntKind.i64 x110) ∧ bif decide (x102 > IntKind.i64.wrap (x106 + x110)) then Q (Value.bool false) m65 (k66 + 23 + 35) else Q (Value.bool b4) m65 (k66 + 23 + 35)
 else Q (Value.bool b4) m65 (k66 + 23 + 35)
 else Q (Value.bool b4) m65 (k66 + 23 + 35))))))))) := by kernel_rfl

/- 8 leafmesh/leafmeshlaw10.SpfWalk -/
theorem xLaw10SpfWalk (m : Mem) (n : Nat) (Q : Value → Mem → Nat → Prop) (x0 : Int) (x1_a : Option Addr) (x1_l : Nat) (x1_c : Nat) (x2_a : Option Addr) (x2_l : Nat) (x2_c : Nat) (from' : Int) (to : Int) (turns_a : Option Addr) (turns_l : Nat) (turns_c : Nat) :
 Xc Try.prog xcfg 400 fLaw10SpfWalk [Value.agg { toList := [Value.int IntKind.i64 x0, Value.slice x1_a x1_l x1_c, Value.slice x2_a x2_l x2_c] }, Value.int IntKind.i64 from', Value.int IntKind.i64 to, Value.slice turns_a turns_l turns_c] m n Q =
 (memLet (Tr.set m n (AObj.cells none tLaw10Net 3 [Value.int IntKind.i64 x0, Value.slice x1_a x1_l x1_c, Value.slice x2_a x2_l x2_c])) fun (m0 : Mem) =>
 Wc Try.prog fLaw10SpfKnown [] m0 (n + 1) fun (v1 : Value) (m2 : Mem) (k3 : Nat) =>
 ∃ (b4 : Bool),
 v1 = Value.bool b4 ∧
 Later
 (∃ (x5 : Int),
 ∃ (p6 : Option Addr),
 ∃ (k7 : Nat),
 ∃ (k8 : Nat),
 ∃ (p9 : Option Addr),
 ∃ (k10 : Nat),
 ∃ (k11 : Nat),
 rds m2 n 0 3 = some [Value.int IntKind.i64 x5, Value.slice p6 k7 k8, Value.slice p9 k10 k11] ∧
 Wc Try.prog fLaw10valid [Value.agg { toList := [Value.int IntKind.i64 x5, Value.slice p6 k7 k8, Value.slice p9 k10 k11] }] m2 k3 fun (v12 : Value) (m13 : Mem) (k14 : Nat) =>
 ∃ (b15 : Bool),
 v12 = Value.bool b15 ∧
 Later
 (bif !b15 then Q (Value.bool b4) m13 k14
 else
 isC m13 n = true ∧
 ∃ (x16 : Int),
 rd m13 n 0 = some (Value.int IntKind.i64 x16) ∧
 ∃ (x17 : Int),
 ∃ (m18 : Mem),
 ∃ (k19 : Nat),
 (Wc Try.prog fKitPick [Value.int IntKind.i64 from', Value.int IntKind.i64 x16] m13 (k14 + 10) fun (v20 : Value) (m21 : Mem) (k22 : Nat) => v20 = Value.int IntKind.i64 x17 ∧ m21 = m18 ∧ k22 = k19) ∧
 Later
 (isC m18 n = true ∧
 ∃ (x23 : Int),
 rd m18 n 0 = some (Value.int IntKind.i64 x23) ∧
 ∃ (x24 : Int),
 ∃ (m25 : Mem),
 ∃ (k26 : Nat),
 (Wc Try.prog fKitPick [Value.int IntKind.i64 to, Value.int IntKind.i64 x23] m18 k19 fun (v27 : Value) (m28 : Mem) (k29 : Nat) => v27 = Value.int IntKind.i64 x24 ∧ m28 = m25 ∧ k29 = k26) ∧
 Later
 ((∃ (x30 : Int), rd m13 n 0 = some (Value.int IntKind.i64 x30) ∧ Value.int IntKind.i64 x30 = Value.int IntKind.i64 x23) ∧
 (isC m13 n = true ∧ Value.pointer (some { block := n, off := 0 }) = Value.pointer (some { block := n, off := 0 })) ∧
 k14 + 10 ≤ k19 ∧
 k14 + 10 ≤ k26 ∧
 ∃ (x31 : Int),
 ∃ (p32 : Option Addr),
 ∃ (k33 : Nat),
 ∃ (k34 : Nat),
 ∃ (p35 : Option Addr),
 ∃ (k36 : Nat),
 ∃ (k37 : Nat),
 rds m25 n 0 3 = some [Value.int IntKind.i64 x31, Value.slice p32 k33 k34, Value.slice p35 k36 k37] ∧
 Wc Try.prog fLaw10Netdist [Value.agg { toList := [Value.int IntKind.i64 x31, Value.slice p32 k33 k34, Value.slice p35 k36 k37] }, Value.int IntKind.i64 x24] m25 k26 fun (v38 : Value) (m39 : Mem) (k40 : Nat) =>
 ∃ (p41 : Option Addr),
 ∃ (k42 : Nat),
 ∃ (k43 : Nat),
 v38 = Value.slice p41 k42 k43 ∧
 Later
 (isC m39 n = true ∧
 ∃ (x44 : Int),
 rd m39 n 0 = some (Value.int IntKind.i64 x44) ∧
 bif (↑k42 : Int) != x44 then Q (Value.bool false) m39 k40
 else isC m39 n = true ∧ ∃ (x45 : Int), rd m39 n 0 = some (Value.int IntKind.i64 x45) ∧ (0 ≤ x45 ∧ x45 ≤ x45 ∧ 2 * x45 ≤ 281474976710656) ∧ memLet (Tr.set m39 k40 (AObj.cells none tBool 1 (List.replicate x45.toNat [Value.bool false]).flatten)) fun (m46 : Mem) => W Try.prog { fn := fLaw10SpfWalk, nt := 166, slots := [(1, Value.int IntKind.i64 x17), (2, Value.int IntKind.i64 x24), (3, Value.slice turns_a turns_l turns_c), (4, Value.pointer (some { block := n, off := 0 })), (9, Value.bool b4), (10, Value.slice p41 k42 k43), (11, Value.slice (some { block := k40, off := 0 }) x45.toNat x45.toNat), (12, Value.int IntKind.i64 x17), (13, Value.int IntKind.i64 0), (14, Value.int IntKind.i64 0)], todo := pt Try.prog fLaw10SpfWalk [1, 1, 1, 1, 1, 1, 1, 1, 0, 1, 0, 0] } m46 (k40 + 1) Q)))))) := by kernel_rfl

theorem xLaw10SpfWalkk0 (m : Mem) (n : Nat) (Q : Value → Mem → Nat → Prop) (turns_a : Option Addr) (turns_l : Nat) (turns_c : Nat) (from'_1 : Int) (to_1 : Int) (x : Nat) (ok : Bool) (d_a : Option Addr) (d_l : Nat) (d_c : Nat) (seen_a : Option Addr) (seen_l : Nat) (seen_c : Nat) (n' : Int) (length : Int) (k : Int) :
 xF (evX Try.prog xcfg 400) { fn := fLaw10SpfWalk, nt := 166, slots := [(1, Value.int IntKind.i64 from'_1), (2, Value.int IntKind.i64 to_1), (3, Value.slice turns_a turns_l turns_c), (4, Value.pointer (some { block := x, off := 0 })), (9, Value.bool ok), (10, Value.slice d_a d_l d_c), (11, Value.slice seen_a seen_l seen_c), (12, Value.int IntKind.i64 n'), (13, Value.int IntKind.i64 length), (14, Value.int IntKind.i64 k)], todo := pt Try.prog fLaw10SpfWalk [1, 1, 1, 1, 1, 1, 1, 1, 0, 1, 0, 0] } m n Q =
 (bif n' != to_1 then
 ∃ (x0 : Int),
 ∃ (p1 : Option Addr),
 ∃ (k2 : Nat),
 ∃ (k3 : Nat),
 ∃ (p4 : Option Addr),
 ∃ (k5 : Nat),
 ∃ (k6 : Nat),
 rds m x 0 3 = some [Value.int IntKind.i64 x0, Value.slice p1 k2 k3, Value.slice p4 k5 k6] ∧
 Wc Try.prog fLaw10Netnext [Value.agg { toList := [Value.int IntKind.i64 x0, Value.slice p1 k2 k3, Value.slice p4 k5 k6] }, Value.int IntKind.i64 n', Value.int IntKind.i64 to_1] m n fun (v7 : Value) (m8 : Mem) (k9 : Nat) =>
 ∃ (p10 : Option Addr),
 ∃ (k11 : Nat),
 ∃ (k12 : Nat),
 v7 = Value.slice p10 k11 k12 ∧
 Later
 (elimA d_a False fun (k13 k14 : Nat) (p15 : Option Nat) =>
 (0 ≤ n' ∧ n' < (↑d_l : Int) ∧ liveAt m8 k13 = true ∧ (p15 ≠ none → 0 < d_c)) ∧
 ∃ (x16 : Int),
 rd m8 k13 (offOf k14 p15 + n'.toNat * 1) = some (Value.int IntKind.i64 x16) ∧
 bif !decide ((↑k11 : Int) > 0) == decide (x16 ≥ 0) then Q (Value.bool false) m8 k9
 else
 elimA seen_a False fun (k17 k18 : Nat) (p19 : Option Nat) =>
 (0 ≤ n' ∧ n' < (↑seen_l : Int) ∧ liveAt m8 k17 = true ∧ (p19 ≠ none → 0 < seen_c)) ∧
 ∃ (b20 : Bool),
 rd m8 k17 (offOf k18 p19 + n'.toNat * 1) = some (Value.bool b20) ∧
 bif b20 then Q (Value.bool false) m8 k9
 else
 bif (↑k11 : Int) == 0 then bif ok then Q (Value.bool (n' == from'_1)) m8 k9 else Q (Value.bool false) m8 k9
 else
 elimA seen_a False fun (k21 k22 : Nat) (p23 : Option Nat) =>
 (0 ≤ n' ∧ n' < (↑seen_l : Int) ∧ liveAt m8 k21 = true ∧ (p23 ≠ none → 0 < seen_c)) ∧
 ∃ (m24 : Mem),
 storeCs m8 k21 (offOf k22 p23 + n'.toNat * 1) [Value.bool true] = some m24 ∧
 bif decide ((↑turns_l : Int) > 0) then
 (↑turns_l : Int) ≠ 0 ∧
 elimA turns_a False fun (k25 k26 : Nat) (p27 : Option Nat) =>
 (0 ≤ k.tmod (↑turns_l : Int) ∧ k.tmod (↑turns_l : Int) < (↑turns_l : Int) ∧ liveAt m24 k25 = true ∧ (p27 ≠ none → 0 < turns_c)) ∧ ∃ (x28 : Int), rd m24 k25 (offOf k26 p27 + (k.tmod (↑turns_l : Int)).toNat * 1) = some (Value.int IntKind.i64 x28) ∧ W Try.prog { fn := fLaw10SpfWalk, nt := 166, slots := [(1, Value.int IntKind.i64 from'_1), (2, Value.int IntKind.i64 to_1), (3, Value.slice turns_a turns_l turns_c), (4, Value.pointer (some { block := x, off := 0 })), (9, Value.bool ok), (10, Value.slice d_a d_l d_c), (11, Value.slice seen_a seen_l seen_c), (12, Value.int IntKind.i64 n'), (13, Value.int IntKind.i64 length), (14, Value.int IntKind.i64 k), (15, Value.slice p10 k11 k12), (16, Value.int IntKind.i64 x28)], todo := pt Try.prog fLaw10SpfWalk [1, 1, 1, 1, 1, 1, 1, 1, 0, 1, 0, 0, 1, 0, 0, 1, 1, 1, 1, 1, 1, 0] } m24 k9 Q
 else W Try.prog { fn := fLaw10SpfWalk, nt := 166, slots := [(1, Value.int IntKind.i64 from'_1), (2, Value.int IntKind.i64 to_1), (3, Value.slice turns_a turns_l turns_c), (4, Value.pointer (some { block := x, off := 0 })), (9, Value.bool ok), (10, Value.slice d_a d_l d_c), (11, Value.slice seen_a seen_l seen_c), (12, Value.int IntKind.i64 n'), (13, Value.int IntKind.i64 length), (14, Value.int IntKind.i64 k), (15, Value.slice p10 k11 k12), (16, Value.int IntKind.i64 k)], todo := pt Try.prog fLaw10SpfWalk [1, 1, 1, 1, 1, 1, 1, 1, 0, 1, 0, 0, 1, 0, 0, 1, 1, 1, 1, 1, 1, 0] } m24 k9 Q)
 else
 bif ok then elimA d_a False fun (k29 k30 : Nat) (p31 : Option Nat) => (0 ≤ from'_1 ∧ from'_1 < (↑d_l : Int) ∧ liveAt m k29 = true ∧ (p31 ≠ none → 0 < d_c)) ∧ ∃ (x32 : Int), rd m k29 (offOf k30 p31 + from'_1.toNat * 1) = some (Value.int IntKind.i64 x32) ∧ bif length == x32 then ∃ (x33 : Int), ∃ (p34 : Option Addr), ∃ (k35 : Nat), ∃ (k36 : Nat), ∃ (p37 : Option Addr), ∃ (k38 : Nat), ∃ (k39 : Nat), rds m x 0 3 = some [Value.int IntKind.i64 x33, Value.slice p34 k35 k36, Value.slice p37 k38 k39] ∧ Wc Try.prog fLaw10Netnext [Value.agg { toList := [Value.int IntKind.i64 x33, Value.slice p34 k35 k36, Value.slice p37 k38 k39] }, Value.int IntKind.i64 to_1, Value.int IntKind.i64 to_1] m n fun (v40 : Value) (m41 : Mem) (k42 : Nat) => ∃ (p43 : Option Addr), ∃ (k44 : Nat), ∃ (k45 : Nat), v40 = Value.slice p43 k44 k45 ∧ Later (Q (Value.bool ((↑k44 : Int) == 0)) m41 k42) else Q (Value.bool false) m n
 else Q (Value.bool false) m n) := by kernel_rfl

theorem xLaw10SpfWalkk1 (m : Mem) (n : Nat) (Q : Value → Mem → Nat → Prop) (turns_a : Option Addr) (turns_l : Nat) (turns_c : Nat) (from'_2 : Int) (to_2 : Int) (x_1 : Option Addr) (ok_1 : Bool) (d_a_1 : Option Addr) (d_l_1 : Nat) (d_c_1 : Nat) (seen_a_1 : Option Addr) (seen_l_1 : Nat) (seen_c_1 : Nat) (n'_1 : Int) (length_1 : Int) (k_1 : Int) (l_a : Option Addr) (l_l : Nat) (l_c : Nat) (t : Int) :
 xF (ev1 Try.prog xcfg 400) { fn := fLaw10SpfWalk, nt := 166, slots := [(1, Value.int IntKind.i64 from'_2), (2, Value.int IntKind.i64 to_2), (3, Value.slice turns_a turns_l turns_c), (4, Value.pointer x_1), (9, Value.bool ok_1), (10, Value.slice d_a_1 d_l_1 d_c_1), (11, Value.slice seen_a_1 seen_l_1 seen_c_1), (12, Value.int IntKind.i64 n'_1), (13, Value.int IntKind.i64 length_1), (14, Value.int IntKind.i64 k_1), (15, Value.slice l_a l_l l_c), (16, Value.int IntKind.i64 t)], todo := pt Try.prog fLaw10SpfWalk [1, 1, 1, 1, 1, 1, 1, 1, 0, 1, 0, 0, 1, 0, 0, 1, 1, 1, 1, 1, 1, 0] } m n Q =
 (Wc Try.prog fKitPick [Value.int IntKind.i64 t, Value.int IntKind.i64 (↑l_l : Int)] m n fun (v0 : Value) (m1 : Mem) (k2 : Nat) =>
 ∃ (x3 : Int),
 v0 = Value.int IntKind.i64 x3 ∧
 Later
 (elimA l_a False fun (k4 k5 : Nat) (p6 : Option Nat) =>
 (0 ≤ x3 ∧ x3 < (↑l_l : Int) ∧ liveAt m1 k4 = true ∧ (p6 ≠ none → 0 < l_c)) ∧
 ∃ (x7 : Int),
 rd m1 k4 (offOf k5 p6 + x3.toNat * 1) = some (Value.int IntKind.i64 x7) ∧
 bif decide (x7 < 0) then Q (Value.bool false) m1 k2
 else
 elimP x_1 False fun (k8 k9 : Nat) =>
 isC m1 k8 = true ∧
 ∃ (p10 : Option Addr),
 ∃ (k11 : Nat),
 ∃ (k12 : Nat),
 rd m1 k8 (k9 + 1) = some (Value.slice p10 k11 k12) ∧
 bif decide (x7 ≥ (↑k11 : Int)) then Q (Value.bool false) m1 k2
 else
 elimP x_1 False fun (k13 k14 : Nat) =>
 isC m1 k13 = true ∧
 ∃ (p15 : Option Addr),
 ∃ (k16 : Nat),
 ∃ (k17 : Nat),
 rd m1 k13 (k14 + 2) = some (Value.slice p15 k16 k17) ∧
 elimA p15 False fun (k18 k19 : Nat) (p20 : Option Nat) =>
 (0 ≤ x7 ∧ x7 < (↑k16 : Int) ∧ liveAt m1 k18 = true ∧ (p20 ≠ none → 0 < k17)) ∧
 ∃ (b21 : Bool),
 rd m1 k18 (offOf k19 p20 + x7.toNat * 1) = some (Value.bool b21) ∧
 bif !b21 then Q (Value.bool false) m1 k2
 else
 elimP x_1 False fun (k22 k23 : Nat) =>
 isC m1 k22 = true ∧
 ∃ (p24 : Option Addr),
 ∃ (k25 : Nat),
 ∃ (k26 : Nat),
 rd m1 k22 (k23 + 1) = some (Value.slice p24 k25 k26) ∧
 elimA p24 False fun (k27 k28 : Nat) (p29 : Option Nat) =>
 (0 ≤ x7 ∧ x7 < (↑k25 : Int) ∧ liveAt m1 k27 = true ∧ (p29 ≠ none → 0 < k26)) ∧
 isC m1 k27 = true ∧
 ∃ (x30 : Int),
 rd m1 k27 (offOf k28 p29 + x7.toNat * 3 + 0) = some (Value.int IntKind.i64 x30) ∧
 bif x30 != n'_1 then
 elimP x_1 False fun (k31 k32 : Nat) =>
 isC m1 k31 = true ∧
 ∃ (p33 : Option Addr),
 ∃ (k34 : Nat),
 ∃ (k35 : Nat),
 rd m1 k31 (k32 + 1) = some (Value.slice p33 k34 k35) ∧
 elimA p33 False fun (k36 k37 : Nat) (p38 : Option Nat) =>
 (0 ≤ x7 ∧ x7 < (↑k34 : Int) ∧ liveAt m1 k36 = true ∧ (p38 ≠ none → 0 < k35)) ∧
 isC m1 k36 = true ∧
 ∃ (x39 : Int),
 rd m1 k36 (offOf k37 p38 + x7.toNat * 3 + 1) = some (Value.int IntKind.i64 x39) ∧
 bif x39 != n'_1 then Q (Value.bool false) m1 k2
 else
 elimP x_1 False fun (k40 k41 : Nat) =>
 isC m1 k40 = true ∧
 ∃ (p42 : Option Addr),
 ∃ (k43 : Nat),
 ∃ (k44 : Nat),
 rd m1 k40 (k41 + 1) = some (Value.slice p42 k43 k44) ∧
 elimA p42 False fun (k45 k46 : Nat) (p47 : Option Nat) =>
 (0 ≤ x7 ∧ x7 < (↑k43 : Int) ∧ liveAt m1 k45 = true ∧ (p47 ≠ none → 0 < k44)) ∧
 ∃ (x48 : Int),
 ∃ (x49 : Int),
 ∃ (x50 : Int),
 rds m1 k45 (offOf k46 p47 + x7.toNat * 3) 3 = some [Value.int IntKind.i64 x48, Value.int IntKind.i64 x49, Value.int IntKind.i64 x50] ∧
 ∃ (x51 : Int),
 ∃ (m52 : Mem),
 ∃ (k53 : Nat),
 (Wc Try.prog fLaw10other [Value.agg { toList := [Value.int IntKind.i64 x48, Value.int IntKind.i64 x49, Value.int IntKind.i64 x50] }, Value.int IntKind.i64 n'_1] m1 (k2 + 17) fun (v54 : Value) (m55 : Mem) (k56 : Nat) => v54 = Value.int IntKind.i64 x51 ∧ m55 = m52 ∧ k56 = k53) ∧
 Later
 (elimP x_1 False fun (k57 k58 : Nat) =>
 isC m52 k57 = true ∧
 ∃ (p59 : Option Addr),
 ∃ (k60 : Nat),
 ∃ (k61 : Nat),
 rd m52 k57 (k58 + 1) = some (Value.slice p59 k60 k61) ∧
 elimA p59 False fun (k62 k63 : Nat) (p64 : Option Nat) =>
 (0 ≤ x7 ∧ x7 < (↑k60 : Int) ∧ liveAt m52 k62 = true ∧ (p64 ≠ none → 0 < k61)) ∧
 isC m52 k62 = true ∧
 ∃ (x65 : Int),
 rd m52 k62 (offOf k63 p64 + x7.toNat * 3 + 2) = some (Value.int IntKind.i64 x65) ∧
 Value.int IntKind.i64 (IntKind.i64.wrap (length_1 + x65)) = Value.int IntKind.i64 (IntKind.i64.wrap (length_1 + x65)) ∧
 (∃ (x66 : Int), rd m1 k62 (offOf k63 p64 + x7.toNat * 3 + 2) = some (Value.int IntKind.i64 x66) ∧ Value.int IntKind.i64 x66 = Value.int IntKind.i64 x65) ∧
 (isC m1 k62 = true ∧ Value.pointer (some { block := k62, off := offOf k63 p64 + x7.toNat * 3 + 2 }) = Value.pointer (some { block := k62, off := offOf k63 p64 + x7.toNat * 3 + 2 })) ∧
 (elimA p59 False fun (k67 k68 : Nat) (p69 : Option Nat) => (0 ≤ x7 ∧ x7 < (↑k60 : Int) ∧ liveAt m1 k67 = true ∧ (p69 ≠ none → 0 < k61)) ∧ Value.pointer (some { block := k67, off := offOf k68 p69 + x7.toNat * 3 }) = Value.pointer (some { block := k62, off := offOf k63 p64 + x7.toNat * 3 })) ∧
 (∃ (p70 : Option Addr), ∃ (k71 : Nat), ∃ (k72 : Nat), rd m1 k57 (k58 + 1) = some (Value.slice p70 k71 k72) ∧ Value.slice p70 k71 k72 = Value.slice p59 k60 k61) ∧
 (elimP x_1 False fun (k73 k74 : Nat) => isC m1 k73 = true ∧ Value.pointer (some { block := k73, off := k74 + 1 }) = Value.pointer (some { block := k57, off := k58 + 1 })) ∧ k2 + 17 ≤ k53 ∧ W Try.prog { fn := fLaw10SpfWalk, nt := 166, slots := [(1, Value.int IntKind.i64 from'_2), (2, Value.int IntKind.i64 to_2), (3, Value.slice turns_a turns_l turns_c), (4, Value.pointer x_1), (9, Value.bool ok_1), (10, Value.slice d_a_1 d_l_1 d_c_1), (11, Value.slice seen_a_1 seen_l_1 seen_c_1), (12, Value.int IntKind.i64 x51), (13, Value.int IntKind.i64 (IntKind.i64.wrap (length_1 + x65))), (14, Value.int IntKind.i64 (IntKind.i64.wrap (k_1 + 1)))], todo := pt Try.prog fLaw10SpfWalk [1, 1, 1, 1, 1, 1, 1, 1, 0, 1, 0, 0] } m52 k53 Q)
 else
 elimP x_1 False fun (k75 k76 : Nat) =>
 isC m1 k75 = true ∧
 ∃ (p77 : Option Addr),
 ∃ (k78 : Nat),
 ∃ (k79 : Nat),
 rd m1 k75 (k76 + 1) = some (Value.slice p77 k78 k79) ∧
 elimA p77 False fun (k80 k81 : Nat) (p82 : Option Nat) =>
 (0 ≤ x7 ∧ x7 < (↑k78 : Int) ∧ liveAt m1 k80 = true ∧ (p82 ≠ none → 0 < k79)) ∧
 ∃ (x83 : Int),
 ∃ (x84 : Int),
 ∃ (x85 : Int),
 rds m1 k80 (offOf k81 p82 + x7.toNat * 3) 3 = some [Value.int IntKind.i64 x83, Value.int IntKind.i64 x84, Value.int IntKind.i64 x85] ∧
 ∃ (x86 : Int),
 ∃ (m87 : Mem),
 ∃ (k88 : Nat),
 (Wc Try.prog fLaw10other [Value.agg { toList := [Value.int IntKind.i64 x83, Value.int IntKind.i64 x84, Value.int IntKind.i64 x85] }, Value.int IntKind.i64 n'_1] m1 (k2 + 17) fun (v89 : Value) (m90 : Mem) (k91 : Nat) => v89 = Value.int IntKind.i64 x86 ∧ m90 = m87 ∧ k91 = k88) ∧
 Later
 (elimP x_1 False fun (k92 k93 : Nat) =>
 isC m87 k92 = true ∧
 ∃ (p94 : Option Addr),
 ∃ (k95 : Nat),
 ∃ (k96 : Nat),
 rd m87 k92 (k93 + 1) = some (Value.slice p94 k95 k96) ∧
 elimA p94 False fun (k97 k98 : Nat) (p99 : Option Nat) =>
 (0 ≤ x7 ∧ x7 < (↑k95 : Int) ∧ liveAt m87 k97 = true ∧ (p99 ≠ none → 0 < k96)) ∧
 isC m87 k97 = true ∧
 ∃ (x100 : Int),
 rd m87 k97 (offOf k98 p99 + x7.toNat * 3 + 2) = some (Value.int IntKind.i64 x100) ∧
 Value.int IntKind.i64 (IntKind.i64.wrap (length_1 + x100)) = Value.int IntKind.i64 (IntKind.i64.wrap (length_1 + x100)) ∧
 (∃ (x101 : Int), rd m1 k97 (offOf k98 p99 + x7.toNat * 3 + 2) = some (Value.int IntKind.i64 x101) ∧ Value.int IntKind.i64 x101 = Value.int IntKind.i64 x100) ∧
 (isC m1 k97 = true ∧ Value.pointer (some { block := k97, off := offOf k98 p99 + x7.toNat * 3 + 2 }) = Value.pointer (some { block := k97, off := offOf k98 p99 + x7.toNat * 3 + 2 })) ∧
 (elimA p94 False fun (k102 k103 : Nat) (p104 : Option Nat) => (0 ≤ x7 ∧ x7 < (↑k95 : Int) ∧ liveAt m1 k102 = true ∧ (p104 ≠ none → 0 < k96)) ∧ Value.pointer (some { block := k102, off := offOf k103 p104 + x7.toNat * 3 }) = Value.pointer (some { block := k97, off := offOf k98 p99 + x7.toNat * 3 })) ∧
 (∃ (p105 : Option Addr), ∃ (k106 : Nat), ∃ (k107 : Nat), rd m1 k92 (k93 + 1) = some (Value.slice p105 k106 k107) ∧ Value.slice p105 k106 k107 = Value.slice p94 k95 k96) ∧
 (elimP x_1 False fun (k108 k109 : Nat) => isC m1 k108 = true ∧ Value.pointer (some { block := k108, off := k109 + 1 }) = Value.pointer (some { block := k92, off := k93 + 1 })) ∧ k2 + 17 ≤ k88 ∧ W Try.prog { fn := fLaw10SpfWalk, nt := 166, slots := [(1, Value.int IntKind.i64 from'_2), (2, Value.int IntKind.i64 to_2), (3, Value.slice turns_a turns_l turns_c), (4, Value.pointer x_1), (9, Value.bool ok_1), (10, Value.slice d_a_1 d_l_1 d_c_1), (11, Value.slice seen_a_1 seen_l_1 seen_c_1), (12, Value.int IntKind.i64 x86), (13, Value.int IntKind.i64 (IntKind.i64.wrap (length_1 + x100))), (14, Value.int IntKind.i64 (IntKind.i64.wrap (k_1 + 1)))], todo := pt Try.prog fLaw10SpfWalk [1, 1, 1, 1, 1, 1, 1, 1, 0, 1, 0, 0] } m87 k88 Q))) := by kernel_rfl

/- 9 leafmesh/leafmeshlaw10.SpfCounts -/
theorem xLaw10SpfCounts (m : Mem) (n : Nat) (Q : Value → Mem → Nat → Prop) (x0 : Int) (x1_a : Option Addr) (x1_l : Nat) (x1_c : Nat) (x2_a : Option Addr) (x2_l : Nat) (x2_c : Nat) (from' : Int) (to : Int) :
 Xc Try.prog xcfg 400 fLaw10SpfCounts [Value.agg { toList := [Value.int IntKind.i64 x0, Value.slice x1_a x1_l x1_c, Value.slice x2_a x2_l x2_c] }, Value.int IntKind.i64 from', Value.int IntKind.i64 to] m n Q =
 (memLet (Tr.set m n (AObj.cells none tLaw10Net 3 [Value.int IntKind.i64 x0, Value.slice x1_a x1_l x1_c, Value.slice x2_a x2_l x2_c])) fun (m0 : Mem) =>
 Wc Try.prog fLaw10SpfKnown [] m0 (n + 1) fun (v1 : Value) (m2 : Mem) (k3 : Nat) =>
 ∃ (b4 : Bool),
 v1 = Value.bool b4 ∧
 Later
 (∃ (x5 : Int),
 ∃ (p6 : Option Addr),
 ∃ (k7 : Nat),
 ∃ (k8 : Nat),
 ∃ (p9 : Option Addr),
 ∃ (k10 : Nat),
 ∃ (k11 : Nat),
 rds m2 n 0 3 = some [Value.int IntKind.i64 x5, Value.slice p6 k7 k8, Value.slice p9 k10 k11] ∧
 Wc Try.prog fLaw10valid [Value.agg { toList := [Value.int IntKind.i64 x5, Value.slice p6 k7 k8, Value.slice p9 k10 k11] }] m2 k3 fun (v12 : Value) (m13 : Mem) (k14 : Nat) =>
 ∃ (b15 : Bool),
 v12 = Value.bool b15 ∧
 Later
 (bif !b15 then Q (Value.bool b4) m13 k14
 else
 isC m13 n = true ∧
 ∃ (x16 : Int),
 rd m13 n 0 = some (Value.int IntKind.i64 x16) ∧
 ∃ (x17 : Int),
 ∃ (m18 : Mem),
 ∃ (k19 : Nat),
 (Wc Try.prog fKitPick [Value.int IntKind.i64 from', Value.int IntKind.i64 x16] m13 (k14 + 10) fun (v20 : Value) (m21 : Mem) (k22 : Nat) => v20 = Value.int IntKind.i64 x17 ∧ m21 = m18 ∧ k22 = k19) ∧
 Later
 (isC m18 n = true ∧
 ∃ (x23 : Int),
 rd m18 n 0 = some (Value.int IntKind.i64 x23) ∧
 ∃ (x24 : Int),
 ∃ (m25 : Mem),
 ∃ (k26 : Nat),
 (Wc Try.prog fKitPick [Value.int IntKind.i64 to, Value.int IntKind.i64 x23] m18 k19 fun (v27 : Value) (m28 : Mem) (k29 : Nat) => v27 = Value.int IntKind.i64 x24 ∧ m28 = m25 ∧ k29 = k26) ∧
 Later
 ((∃ (x30 : Int), rd m13 n 0 = some (Value.int IntKind.i64 x30) ∧ Value.int IntKind.i64 x30 = Value.int IntKind.i64 x23) ∧
 (isC m13 n = true ∧ Value.pointer (some { block := n, off := 0 }) = Value.pointer (some { block := n, off := 0 })) ∧
 k14 + 10 ≤ k19 ∧
 k14 + 10 ≤ k26 ∧
 ∃ (x31 : Int),
 ∃ (p32 : Option Addr),
 ∃ (k33 : Nat),
 ∃ (k34 : Nat),
 ∃ (p35 : Option Addr),
 ∃ (k36 : Nat),
 ∃ (k37 : Nat),
 rds m25 n 0 3 = some [Value.int IntKind.i64 x31, Value.slice p32 k33 k34, Value.slice p35 k36 k37] ∧ Wc Try.prog fLaw10Netnext [Value.agg { toList := [Value.int IntKind.i64 x31, Value.slice p32 k33 k34, Value.slice p35 k36 k37] }, Value.int IntKind.i64 x17, Value.int IntKind.i64 x24] m25 k26 fun (v38 : Value) (m39 : Mem) (k40 : Nat) => ∃ (p41 : Option Addr), ∃ (k42 : Nat), ∃ (k43 : Nat), v38 = Value.slice p41 k42 k43 ∧ Later (W Try.prog { fn := fLaw10SpfCounts, nt := 101, slots := [(1, Value.int IntKind.i64 x17), (2, Value.int IntKind.i64 x24), (3, Value.pointer (some { block := n, off := 0 })), (7, Value.bool b4), (8, Value.slice p41 k42 k43), (9, Value.int IntKind.i64 0), (10, Value.int IntKind.i64 0)], todo := pt Try.prog fLaw10SpfCounts [1, 1, 1, 1, 1, 1, 0, 1, 0, 0] } m39 k40 Q)))))) := by kernel_rfl

theorem xLaw10SpfCountsk0 (m : Mem) (n : Nat) (Q : Value → Mem → Nat → Prop) (from'_1 : Int) (to_1 : Int) (x : Nat) (ok : Bool) (l_a : Option Addr) (l_l : Nat) (l_c : Nat) (sum : Int) (i : Int) :
 xF (evX Try.prog xcfg 400) { fn := fLaw10SpfCounts, nt := 101, slots := [(1, Value.int IntKind.i64 from'_1), (2, Value.int IntKind.i64 to_1), (3, Value.pointer (some { block := x, off := 0 })), (7, Value.bool ok), (8, Value.slice l_a l_l l_c), (9, Value.int IntKind.i64 sum), (10, Value.int IntKind.i64 i)], todo := pt Try.prog fLaw10SpfCounts [1, 1, 1, 1, 1, 1, 0, 1, 0, 0] } m n Q =
 (bif decide (i < (↑l_l : Int)) then
 elimA l_a False fun (k0 k1 : Nat) (p2 : Option Nat) =>
 (0 ≤ i ∧ i < (↑l_l : Int) ∧ liveAt m k0 = true ∧ (p2 ≠ none → 0 < l_c)) ∧
 ∃ (x3 : Int),
 rd m k0 (offOf k1 p2 + i.toNat * 1) = some (Value.int IntKind.i64 x3) ∧
 bif decide (x3 < 0) then Q (Value.bool false) m (n + 31)
 else
 elimA l_a False fun (k4 k5 : Nat) (p6 : Option Nat) =>
 (0 ≤ i ∧ i < (↑l_l : Int) ∧ liveAt m k4 = true ∧ (p6 ≠ none → 0 < l_c)) ∧
 ∃ (x7 : Int),
 rd m k4 (offOf k5 p6 + i.toNat * 1) = some (Value.int IntKind.i64 x7) ∧
 isC m x = true ∧
 ∃ (p8 : Option Addr),
 ∃ (k9 : Nat),
 ∃ (k10 : Nat),
 rd m x 1 = some (Value.slice p8 k9 k10) ∧
 bif decide (x7 ≥ (↑k9 : Int)) then Q (Value.bool false) m (n + 31)
 else
 bif decide (i > 0) then
 elimA l_a False fun (k11 k12 : Nat) (p13 : Option Nat) =>
 (0 ≤ i ∧ i < (↑l_l : Int) ∧ liveAt m k11 = true ∧ (p13 ≠ none → 0 < l_c)) ∧
 ∃ (x14 : Int),
 rd m k11 (offOf k12 p13 + i.toNat * 1) = some (Value.int IntKind.i64 x14) ∧
 elimA l_a False fun (k15 k16 : Nat) (p17 : Option Nat) =>
 (0 ≤ IntKind.i64.wrap (i - 1) ∧ IntKind.i64.wrap (i - 1) < (↑l_l : Int) ∧ liveAt m k15 = true ∧ (p17 ≠ none → 0 < l_c)) ∧
 ∃ (x18 : Int),
 rd m k15 (offOf k16 p17 + (IntKind.i64.wrap (i - 1)).toNat * 1) = some (Value.int IntKind.i64 x18) ∧
 bif decide (x14 ≤ x18) then Q (Value.bool false) m (n + 31)
 else
 ∃ (x19 : Int),
 ∃ (p20 : Option Addr),
 ∃ (k21 : Nat),
 ∃ (k22 : Nat),
 ∃ (p23 : Option Addr),
 ∃ (k24 : Nat),
 ∃ (k25 : Nat),
 rds m x 0 3 = some [Value.int IntKind.i64 x19, Value.slice p20 k21 k22, Value.slice p23 k24 k25] ∧
 isC m x = true ∧
 ∃ (p26 : Option Addr),
 ∃ (k27 : Nat),
 ∃ (k28 : Nat),
 rd m x 1 = some (Value.slice p26 k27 k28) ∧
 elimA l_a False fun (k29 k30 : Nat) (p31 : Option Nat) =>
 (0 ≤ i ∧ i < (↑l_l : Int) ∧ liveAt m k29 = true ∧ (p31 ≠ none → 0 < l_c)) ∧
 ∃ (x32 : Int),
 rd m k29 (offOf k30 p31 + i.toNat * 1) = some (Value.int IntKind.i64 x32) ∧
 elimA p26 False fun (k33 k34 : Nat) (p35 : Option Nat) =>
 (0 ≤ x32 ∧ x32 < (↑k27 : Int) ∧ liveAt m k33 = true ∧ (p35 ≠ none → 0 < k28)) ∧
 ∃ (x36 : Int),
 ∃ (x37 : Int),
 ∃ (x38 : Int),
 rds m k33 (offOf k34 p35 + x32.toNat * 3) 3 = some [Value.int IntKind.i64 x36, Value.int IntKind.i64 x37, Value.int IntKind.i64 x38] ∧
 ∃ (x39 : Int),
 ∃ (m40 : Mem),
 ∃ (k41 : Nat),
 (Wc Try.prog fLaw10other [Value.agg { toList := [Value.int IntKind.i64 x36, Value.int IntKind.i64 x37, Value.int IntKind.i64 x38] }, Value.int IntKind.i64 from'_1] m (n + 31 + 14) fun (v42 : Value) (m43 : Mem) (k44 : Nat) => v42 = Value.int IntKind.i64 x39 ∧ m43 = m40 ∧ k44 = k41) ∧
 Later
 (∃ (x45 : Int),
 ∃ (m46 : Mem),
 ∃ (k47 : Nat),
 (Wc Try.prog fLaw10Netpaths [Value.agg { toList := [Value.int IntKind.i64 x19, Value.slice p20 k21 k22, Value.slice p23 k24 k25] }, Value.int IntKind.i64 x39, Value.int IntKind.i64 to_1] m40 k41 fun (v48 : Value) (m49 : Mem) (k50 : Nat) => v48 = Value.int IntKind.i64 x45 ∧ m49 = m46 ∧ k50 = k47) ∧
 Later
 ((∃ (x51 : Int), ∃ (p52 : Option Addr), ∃ (k53 : Nat), ∃ (k54 : Nat), ∃ (p55 : Option Addr), ∃ (k56 : Nat), ∃ (k57 : Nat), rds m40 x 0 3 = some [Value.int IntKind.i64 x51, Value.slice p52 k53 k54, Value.slice p55 k56 k57] ∧ Value.agg { toList := [Value.int IntKind.i64 x51, Value.slice p52 k53 k54, Value.slice p55 k56 k57] } = Value.agg { toList := [Value.int IntKind.i64 x19, Value.slice p20 k21 k22, Value.slice p23 k24 k25] }) ∧
 n + 31 + 14 ≤ k41 ∧ n + 31 + 14 ≤ k47 ∧ bif decide (x45 < 1) then Q (Value.bool false) m46 k47 else bif decide (x45 > 1073741824) then Q (Value.bool false) m46 k47 else W Try.prog { fn := fLaw10SpfCounts, nt := 101, slots := [(1, Value.int IntKind.i64 from'_1), (2, Value.int IntKind.i64 to_1), (3, Value.pointer (some { block := x, off := 0 })), (7, Value.bool ok), (8, Value.slice l_a l_l l_c), (9, Value.int IntKind.i64 (if IntKind.i64.wrap (sum + x45) < 1073741824 then IntKind.i64.wrap (sum + x45) else 1073741824)), (10, Value.int IntKind.i64 (IntKind.i64.wrap (i + 1)))], todo := pt Try.prog fLaw10SpfCounts [1, 1, 1, 1, 1, 1, 0, 1, 0, 0] } m46 k47 Q))
 else
 ∃ (x58 : Int),
 ∃ (p59 : Option Addr),
 ∃ (k60 : Nat),
 ∃ (k61 : Nat),
 ∃ (p62 : Option Addr),
 ∃ (k63 : Nat),
 ∃ (k64 : Nat),
 rds m x 0 3 = some [Value.int IntKind.i64 x58, Value.slice p59 k60 k61, Value.slice p62 k63 k64] ∧
 isC m x = true ∧
 ∃ (p65 : Option Addr),
 ∃ (k66 : Nat),
 ∃ (k67 : Nat),
 rd m x 1 = some (Value.slice p65 k66 k67) ∧
 elimA l_a False fun (k68 k69 : Nat) (p70 : Option Nat) =>
 (0 ≤ i ∧ i < (↑l_l : Int) ∧ liveAt m k68 = true ∧ (p70 ≠ none → 0 < l_c)) ∧
 ∃ (x71 : Int),
 rd m k68 (offOf k69 p70 + i.toNat * 1) = some (Value.int IntKind.i64 x71) ∧
 elimA p65 False fun (k72 k73 : Nat) (p74 : Option Nat) =>
 (0 ≤ x71 ∧ x71 < (↑k66 : Int) ∧ liveAt m k72 = true ∧ (p74 ≠ none → 0 < k67)) ∧
 ∃ (x75 : Int),
 ∃ (x76 : Int),
 ∃ (x77 : Int),
 rds m k72 (offOf k73 p74 + x71.toNat * 3) 3 = some [Value.int IntKind.i64 x75, Value.int IntKind.i64 x76, Value.int IntKind.i64 x77] ∧
 ∃ (x78 : Int),
 ∃ (m79 : Mem),
 ∃ (k80 : Nat),
 (Wc Try.prog fLaw10other [Value.agg { toList := [Value.int IntKind.i64 x75, Value.int IntKind.i64 x76, Value.int IntKind.i64 x77] }, Value.int IntKind.i64 from'_1] m (n + 31 + 14) fun (v81 : Value) (m82 : Mem) (k83 : Nat) => v81 = Value.int IntKind.i64 x78 ∧ m82 = m79 ∧ k83 = k80) ∧
 Later
 (∃ (x84 : Int),
 ∃ (m85 : Mem),
 ∃ (k86 : Nat),
 (Wc Try.prog fLaw10Netpaths [Value.agg { toList := [Value.int IntKind.i64 x58, Value.slice p59 k60 k61, Value.slice p62 k63 k64] }, Value.int IntKind.i64 x78, Value.int IntKind.i64 to_1] m79 k80 fun (v87 : Value) (m88 : Mem) (k89 : Nat) => v87 = Value.int IntKind.i64 x84 ∧ m88 = m85 ∧ k89 = k86) ∧
 Later
 ((∃ (x90 : Int), ∃ (p91 : Option Addr), ∃ (k92 : Nat), ∃ (k93 : Nat), ∃ (p94 : Option Addr), ∃ (k95 : Nat), ∃ (k96 : Nat), rds m79 x 0 3 = some [Value.int IntKind.i64 x90, Value.slice p91 k92 k93, Value.slice p94 k95 k96] ∧ Value.agg { toList := [Value.int IntKind.i64 x90, Value.slice p91 k92 k93, Value.slice p94 k95 k96] } = Value.agg { toList := [Value.int IntKind.i64 x58, Value.slice p59 k60 k61, Value.slice p62 k63 k64] }) ∧
 n + 31 + 14 ≤ k80 ∧ n + 31 + 14 ≤ k86 ∧ bif decide (x84 < 1) then Q (Value.bool false) m85 k86 else bif decide (x84 > 1073741824) then Q (Value.bool false) m85 k86 else W Try.prog { fn := fLaw10SpfCounts, nt := 101, slots := [(1, Value.int IntKind.i64 from'_1), (2, Value.int IntKind.i64 to_1), (3, Value.pointer (some { block := x, off := 0 })), (7, Value.bool ok), (8, Value.slice l_a l_l l_c), (9, Value.int IntKind.i64 (if IntKind.i64.wrap (sum + x84) < 1073741824 then IntKind.i64.wrap (sum + x84) else 1073741824)), (10, Value.int IntKind.i64 (IntKind.i64.wrap (i + 1)))], todo := pt Try.prog fLaw10SpfCounts [1, 1, 1, 1, 1, 1, 0, 1, 0, 0] } m85 k86 Q))
 else
 bif from'_1 == to_1 then bif ok then ∃ (x97 : Int), ∃ (p98 : Option Addr), ∃ (k99 : Nat), ∃ (k100 : Nat), ∃ (p101 : Option Addr), ∃ (k102 : Nat), ∃ (k103 : Nat), rds m x 0 3 = some [Value.int IntKind.i64 x97, Value.slice p98 k99 k100, Value.slice p101 k102 k103] ∧ Wc Try.prog fLaw10Netpaths [Value.agg { toList := [Value.int IntKind.i64 x97, Value.slice p98 k99 k100, Value.slice p101 k102 k103] }, Value.int IntKind.i64 from'_1, Value.int IntKind.i64 to_1] m n fun (v104 : Value) (m105 : Mem) (k106 : Nat) => ∃ (x107 : Int), v104 = Value.int IntKind.i64 x107 ∧ Later (Q (Value.bool (x107 == 1)) m105 k106) else Q (Value.bool false) m n
 else bif ok then ∃ (x108 : Int), ∃ (p109 : Option Addr), ∃ (k110 : Nat), ∃ (k111 : Nat), ∃ (p112 : Option Addr), ∃ (k113 : Nat), ∃ (k114 : Nat), rds m x 0 3 = some [Value.int IntKind.i64 x108, Value.slice p109 k110 k111, Value.slice p112 k113 k114] ∧ Wc Try.prog fLaw10Netpaths [Value.agg { toList := [Value.int IntKind.i64 x108, Value.slice p109 k110 k111, Value.slice p112 k113 k114] }, Value.int IntKind.i64 from'_1, Value.int IntKind.i64 to_1] m n fun (v115 : Value) (m116 : Mem) (k117 : Nat) => ∃ (x118 : Int), v115 = Value.int IntKind.i64 x118 ∧ Later (Q (Value.bool (x118 == sum)) m116 k117) else Q (Value.bool false) m n) := by kernel_rfl

/- 10 leafmesh/leafmeshlaw10.SpfCut -/
theorem xLaw10SpfCut (m : Mem) (n : Nat) (Q : Value → Mem → Nat → Prop) (x0 : Int) (x1_a : Option Addr) (x1_l : Nat) (x1_c : Nat) (x2_a : Option Addr) (x2_l : Nat) (x2_c : Nat) (link : Int) (from' : Int) (to : Int) :
 Xc Try.prog xcfg 400 fLaw10SpfCut [Value.agg { toList := [Value.int IntKind.i64 x0, Value.slice x1_a x1_l x1_c, Value.slice x2_a x2_l x2_c] }, Value.int IntKind.i64 link, Value.int IntKind.i64 from', Value.int IntKind.i64 to] m n Q =
 (memLet (Tr.set m n (AObj.cells none tLaw10Net 3 [Value.int IntKind.i64 x0, Value.slice x1_a x1_l x1_c, Value.slice x2_a x2_l x2_c])) fun (m0 : Mem) =>
 Wc Try.prog fLaw10SpfKnown [] m0 (n + 1) fun (v1 : Value) (m2 : Mem) (k3 : Nat) =>
 ∃ (b4 : Bool),
 v1 = Value.bool b4 ∧
 Later
 (∃ (x5 : Int),
 ∃ (p6 : Option Addr),
 ∃ (k7 : Nat),
 ∃ (k8 : Nat),
 ∃ (p9 : Option Addr),
 ∃ (k10 : Nat),
 ∃ (k11 : Nat),
 rds m2 n 0 3 = some [Value.int IntKind.i64 x5, Value.slice p6 k7 k8, Value.slice p9 k10 k11] ∧
 Wc Try.prog fLaw10valid [Value.agg { toList := [Value.int IntKind.i64 x5, Value.slice p6 k7 k8, Value.slice p9 k10 k11] }] m2 k3 fun (v12 : Value) (m13 : Mem) (k14 : Nat) =>
 ∃ (b15 : Bool),
 v12 = Value.bool b15 ∧
 Later
 (bif !b15 then Q (Value.bool b4) m13 k14
 else
 isC m13 n = true ∧
 ∃ (p16 : Option Addr),
 ∃ (k17 : Nat),
 ∃ (k18 : Nat),
 rd m13 n 1 = some (Value.slice p16 k17 k18) ∧
 bif (↑k17 : Int) == 0 then Q (Value.bool b4) m13 k14
 else
 isC m13 n = true ∧
 ∃ (p19 : Option Addr),
 ∃ (k20 : Nat),
 ∃ (k21 : Nat),
 rd m13 n 1 = some (Value.slice p19 k20 k21) ∧
 ∃ (x22 : Int),
 ∃ (m23 : Mem),
 ∃ (k24 : Nat),
 (Wc Try.prog fKitPick [Value.int IntKind.i64 link, Value.int IntKind.i64 (↑k20 : Int)] m13 (k14 + 16) fun (v25 : Value) (m26 : Mem) (k27 : Nat) => v25 = Value.int IntKind.i64 x22 ∧ m26 = m23 ∧ k27 = k24) ∧
 Later
 (isC m23 n = true ∧
 ∃ (x28 : Int),
 rd m23 n 0 = some (Value.int IntKind.i64 x28) ∧
 ∃ (x29 : Int),
 ∃ (m30 : Mem),
 ∃ (k31 : Nat),
 (Wc Try.prog fKitPick [Value.int IntKind.i64 from', Value.int IntKind.i64 x28] m23 k24 fun (v32 : Value) (m33 : Mem) (k34 : Nat) => v32 = Value.int IntKind.i64 x29 ∧ m33 = m30 ∧ k34 = k31) ∧
 Later
 (isC m30 n = true ∧
 ∃ (x35 : Int),
 rd m30 n 0 = some (Value.int IntKind.i64 x35) ∧
 ∃ (x36 : Int),
 ∃ (m37 : Mem),
 ∃ (k38 : Nat),
 (Wc Try.prog fKitPick [Value.int IntKind.i64 to, Value.int IntKind.i64 x35] m30 k31 fun (v39 : Value) (m40 : Mem) (k41 : Nat) => v39 = Value.int IntKind.i64 x36 ∧ m40 = m37 ∧ k41 = k38) ∧
 Later
 ((∃ (x42 : Int), rd m13 n 0 = some (Value.int IntKind.i64 x42) ∧ Value.int IntKind.i64 x42 = Value.int IntKind.i64 x35) ∧
 (∃ (x43 : Int), rd m23 n 0 = some (Value.int IntKind.i64 x43) ∧ Value.int IntKind.i64 x43 = Value.int IntKind.i64 x35) ∧
 (isC m13 n = true ∧ Value.pointer (some { block := n, off := 0 }) = Value.pointer (some { block := n, off := 0 })) ∧
 (isC m23 n = true ∧ Value.pointer (some { block := n, off := 0 }) = Value.pointer (some { block := n, off := 0 })) ∧
 (∃ (x44 : Int), rd m13 n 0 = some (Value.int IntKind.i64 x44) ∧ Value.int IntKind.i64 x44 = Value.int IntKind.i64 x28) ∧
 (isC m13 n = true ∧ Value.pointer (some { block := n, off := 0 }) = Value.pointer (some { block := n, off := 0 })) ∧
 k14 + 16 ≤ k24 ∧
 k14 + 16 ≤ k31 ∧
 k14 + 16 ≤ k38 ∧
 isC m37 n = true ∧
 ∃ (x45 : Int),
 rd m37 n 0 = some (Value.int IntKind.i64 x45) ∧
 isC m37 n = true ∧
 ∃ (p46 : Option Addr),
 ∃ (k47 : Nat),
 ∃ (k48 : Nat),
 rd m37 n 1 = some (Value.slice p46 k47 k48) ∧
 isC m37 n = true ∧
 ∃ (p49 : Option Addr),
 ∃ (k50 : Nat),
 ∃ (k51 : Nat),
 rd m37 n 2 = some (Value.slice p49 k50 k51) ∧
 ∃ (p52 : Option Addr),
 ∃ (k53 : Nat),
 ∃ (k54 : Nat),
 ∃ (m55 : Mem),
 ∃ (k56 : Nat),
 (Wc Try.prog fKitOwnbool [Value.slice p49 k50 k51] m37 (k38 + 10) fun (v57 : Value) (m58 : Mem) (k59 : Nat) => v57 = Value.slice p52 k53 k54 ∧ m58 = m55 ∧ k59 = k56) ∧
 Later
 (memLet (Tr.set m55 (k38 + 8) (AObj.cells none tLaw10Net 3 [Value.int IntKind.i64 0, Value.slice none 0 0, Value.slice none 0 0])) fun (m60 : Mem) =>
 ∃ (m61 : Mem),
 storeCs m60 (k38 + 8) 0 [Value.int IntKind.i64 x45, Value.slice p46 k47 k48, Value.slice p52 k53 k54] = some m61 ∧
 (∃ (p62 : Option Addr), ∃ (k63 : Nat), ∃ (k64 : Nat), rd m55 n 1 = some (Value.slice p62 k63 k64) ∧ Value.slice p62 k63 k64 = Value.slice p46 k47 k48) ∧
 (isC m55 n = true ∧ Value.pointer (some { block := n, off := 1 }) = Value.pointer (some { block := n, off := 1 })) ∧
 (∃ (x65 : Int), rd m55 n 0 = some (Value.int IntKind.i64 x65) ∧ Value.int IntKind.i64 x65 = Value.int IntKind.i64 x45) ∧
 (isC m55 n = true ∧ Value.pointer (some { block := n, off := 0 }) = Value.pointer (some { block := n, off := 0 })) ∧
 k38 + 10 ≤ k56 ∧
 k38 + 10 ≤ k56 ∧
 Tr.get m55 (k38 + 8) = none ∧
 isC m61 (k38 + 8) = true ∧
 ∃ (p66 : Option Addr),
 ∃ (k67 : Nat),
 ∃ (k68 : Nat),
 rd m61 (k38 + 8) 2 = some (Value.slice p66 k67 k68) ∧
 elimA p66 False fun (k69 k70 : Nat) (p71 : Option Nat) =>
 (0 ≤ x22 ∧ x22 < (↑k67 : Int) ∧ liveAt m61 k69 = true ∧ (p71 ≠ none → 0 < k68)) ∧
 ∃ (m72 : Mem),
 storeCs m61 k69 (offOf k70 p71 + x22.toNat * 1) [Value.bool false] = some m72 ∧
 ∃ (x73 : Int),
 ∃ (p74 : Option Addr),
 ∃ (k75 : Nat),
 ∃ (k76 : Nat),
 ∃ (p77 : Option Addr),
 ∃ (k78 : Nat),
 ∃ (k79 : Nat),
 rds m72 n 0 3 = some [Value.int IntKind.i64 x73, Value.slice p74 k75 k76, Value.slice p77 k78 k79] ∧
 ∃ (p80 : Option Addr),
 ∃ (k81 : Nat),
 ∃ (k82 : Nat),
 ∃ (m83 : Mem),
 ∃ (k84 : Nat),
 (Wc Try.prog fLaw10Netdist [Value.agg { toList := [Value.int IntKind.i64 x73, Value.slice p74 k75 k76, Value.slice p77 k78 k79] }, Value.int IntKind.i64 x29] m72 (k56 + 12) fun (v85 : Value) (m86 : Mem) (k87 : Nat) => v85 = Value.slice p80 k81 k82 ∧ m86 = m83 ∧ k87 = k84) ∧
 Later
 (∃ (x88 : Int),
 ∃ (p89 : Option Addr),
 ∃ (k90 : Nat),
 ∃ (k91 : Nat),
 ∃ (p92 : Option Addr),
 ∃ (k93 : Nat),
 ∃ (k94 : Nat),
 rds m83 (k38 + 8) 0 3 = some [Value.int IntKind.i64 x88, Value.slice p89 k90 k91, Value.slice p92 k93 k94] ∧
 ∃ (p95 : Option Addr),
 ∃ (k96 : Nat),
 ∃ (k97 : Nat),
 ∃ (m98 : Mem),
 ∃ (k99 : Nat),
 (Wc Try.prog fLaw10Netdist [Value.agg { toList := [Value.int IntKind.i64 x88, Value.slice p89 k90 k91, Value.slice p92 k93 k94] }, Value.int IntKind.i64 x29] m83 k84 fun (v100 : Value) (m101 : Mem) (k102 : Nat) => v100 = Value.slice p95 k96 k97 ∧ m101 = m98 ∧ k102 = k99) ∧
 Later
 (∃ (x103 : Int),
 ∃ (p104 : Option Addr),
 ∃ (k105 : Nat),
 ∃ (k106 : Nat),
 ∃ (p107 : Option Addr),
 ∃ (k108 : Nat),
 ∃ (k109 : Nat),
 rds m98 n 0 3 = some [Value.int IntKind.i64 x103, Value.slice p104 k105 k106, Value.slice p107 k108 k109] ∧
 ∃ (p110 : Option Addr),
 ∃ (k111 : Nat),
 ∃ (k112 : Nat),
 ∃ (m113 : Mem),
 ∃ (k114 : Nat),
 (Wc Try.prog fLaw10Netdist [Value.agg { toList := [Value.int IntKind.i64 x103, Value.slice p104 k105 k106, Value.slice p107 k108 k109] }, Value.int IntKind.i64 x36] m98 k99 fun (v115 : Value) (m116 : Mem) (k117 : Nat) => v115 = Value.slice p110 k111 k112 ∧ m116 = m113 ∧ k117 = k114) ∧
 Later
 ((∃ (x118 : Int), ∃ (p119 : Option Addr), ∃ (k120 : Nat), ∃ (k121 : Nat), ∃ (p122 : Option Addr), ∃ (k123 : Nat), ∃ (k124 : Nat), rds m72 n 0 3 = some [Value.int IntKind.i64 x118, Value.slice p119 k120 k121, Value.slice p122 k123 k124] ∧ Value.agg { toList := [Value.int IntKind.i64 x118, Value.slice p119 k120 k121, Value.slice p122 k123 k124] } = Value.agg { toList := [Value.int IntKind.i64 x103, Value.slice p104 k105 k106, Value.slice p107 k108 k109] }) ∧
 (∃ (x125 : Int), ∃ (p126 : Option Addr), ∃ (k127 : Nat), ∃ (k128 : Nat), ∃ (p129 : Option Addr), ∃ (k130 : Nat), ∃ (k131 : Nat), rds m83 n 0 3 = some [Value.int IntKind.i64 x125, Value.slice p126 k127 k128, Value.slice p129 k130 k131] ∧ Value.agg { toList := [Value.int IntKind.i64 x125, Value.slice p126 k127 k128, Value.slice p129 k130 k131] } = Value.agg { toList := [Value.int IntKind.i64 x103, Value.slice p104 k105 k106, Value.slice p107 k108 k109] }) ∧
 (∃ (x132 : Int), ∃ (p133 : Option Addr), ∃ (k134 : Nat), ∃ (k135 : Nat), ∃ (p136 : Option Addr), ∃ (k137 : Nat), ∃ (k138 : Nat), rds m72 (k38 + 8) 0 3 = some [Value.int IntKind.i64 x132, Value.slice p133 k134 k135, Value.slice p136 k137 k138] ∧ Value.agg { toList := [Value.int IntKind.i64 x132, Value.slice p133 k134 k135, Value.slice p136 k137 k138] } = Value.agg { toList := [Value.int IntKind.i64 x88, Value.slice p89 k90 k91, Value.slice p92 k93 k94] }) ∧
 k56 + 12 ≤ k84 ∧
 k56 + 12 ≤ k99 ∧
 k56 + 12 ≤ k114 ∧
 isC m113 n = true ∧
 ∃ (x139 : Int),
 rd m113 n 0 = some (Value.int IntKind.i64 x139) ∧
 bif (↑k81 : Int) != x139 then Q (Value.bool false) m113 k114
 else
 isC m113 n = true ∧
 ∃ (x140 : Int),
 rd m113 n 0 = some (Value.int IntKind.i64 x140) ∧
 bif (↑k96 : Int) != x140 then Q (Value.bool false) m113 k114
 else
 isC m113 n = true ∧
 ∃ (x141 : Int),
 rd m113 n 0 = some (Value.int IntKind.i64 x141) ∧
 bif (↑k111 : Int) != x141 then Q (Value.bool false) m113 k114 else W Try.prog { fn := fLaw10SpfCut, nt := 220, slots := [(1, Value.int IntKind.i64 x22), (2, Value.int IntKind.i64 x29), (3, Value.int IntKind.i64 x36), (4, Value.pointer (some { block := n, off := 0 })), (9, Value.bool b4), (10, Value.pointer (some { block := k38 + 8, off := 0 })), (11, Value.slice p80 k81 k82), (12, Value.slice p95 k96 k97), (13, Value.slice p110 k111 k112), (14, Value.int IntKind.i64 0)], todo := pt Try.prog fLaw10SpfCut [1, 1, 1, 1, 1, 1, 1, 1, 0, 1, 0, 0] } m113 k114 Q)))))))))) := by kernel_rfl

theorem xLaw10SpfCutk0 (m : Mem) (n : Nat) (Q : Value → Mem → Nat → Prop) (link_1 : Int) (from'_1 : Int) (to_1 : Int) (x : Nat) (ok : Bool) (y : Nat) (d_a : Option Addr) (d_l : Nat) (d_c : Nat) (e_a : Option Addr) (e_l : Nat) (e_c : Nat) (g_a : Option Addr) (g_l : Nat) (g_c : Nat) (n' : Int) :
 xF (evX Try.prog xcfg 400) { fn := fLaw10SpfCut, nt := 220, slots := [(1, Value.int IntKind.i64 link_1), (2, Value.int IntKind.i64 from'_1), (3, Value.int IntKind.i64 to_1), (4, Value.pointer (some { block := x, off := 0 })), (9, Value.bool ok), (10, Value.pointer (some { block := y, off := 0 })), (11, Value.slice d_a d_l d_c), (12, Value.slice e_a e_l e_c), (13, Value.slice g_a g_l g_c), (14, Value.int IntKind.i64 n')], todo := pt Try.prog fLaw10SpfCut [1, 1, 1, 1, 1, 1, 1, 1, 0, 1, 0, 0] } m n Q =
 (isC m x = true ∧
 ∃ (x0 : Int),
 rd m x 0 = some (Value.int IntKind.i64 x0) ∧
 bif decide (n' < x0) then
 elimA d_a False fun (k1 k2 : Nat) (p3 : Option Nat) =>
 (0 ≤ n' ∧ n' < (↑d_l : Int) ∧ liveAt m k1 = true ∧ (p3 ≠ none → 0 < d_c)) ∧
 ∃ (x4 : Int),
 rd m k1 (offOf k2 p3 + n'.toNat * 1) = some (Value.int IntKind.i64 x4) ∧
 bif decide (x4 < 0) then
 elimA e_a False fun (k5 k6 : Nat) (p7 : Option Nat) =>
 (0 ≤ n' ∧ n' < (↑e_l : Int) ∧ liveAt m k5 = true ∧ (p7 ≠ none → 0 < e_c)) ∧
 ∃ (x8 : Int),
 rd m k5 (offOf k6 p7 + n'.toNat * 1) = some (Value.int IntKind.i64 x8) ∧
 bif decide (x8 ≥ 0) then Q (Value.bool false) m (n + 30)
 else
 elimA e_a False fun (k9 k10 : Nat) (p11 : Option Nat) =>
 (0 ≤ n' ∧ n' < (↑e_l : Int) ∧ liveAt m k9 = true ∧ (p11 ≠ none → 0 < e_c)) ∧
 ∃ (x12 : Int),
 rd m k9 (offOf k10 p11 + n'.toNat * 1) = some (Value.int IntKind.i64 x12) ∧
 bif decide (x12 ≥ 0) then
 elimA e_a False fun (k13 k14 : Nat) (p15 : Option Nat) =>
 (0 ≤ n' ∧ n' < (↑e_l : Int) ∧ liveAt m k13 = true ∧ (p15 ≠ none → 0 < e_c)) ∧
 ∃ (x16 : Int),
 rd m k13 (offOf k14 p15 + n'.toNat * 1) = some (Value.int IntKind.i64 x16) ∧
 elimA d_a False fun (k17 k18 : Nat) (p19 : Option Nat) => (0 ≤ n' ∧ n' < (↑d_l : Int) ∧ liveAt m k17 = true ∧ (p19 ≠ none → 0 < d_c)) ∧ ∃ (x20 : Int), rd m k17 (offOf k18 p19 + n'.toNat * 1) = some (Value.int IntKind.i64 x20) ∧ bif decide (x16 < x20) then Q (Value.bool false) m (n + 30) else W Try.prog { fn := fLaw10SpfCut, nt := 220, slots := [(1, Value.int IntKind.i64 link_1), (2, Value.int IntKind.i64 from'_1), (3, Value.int IntKind.i64 to_1), (4, Value.pointer (some { block := x, off := 0 })), (9, Value.bool ok), (10, Value.pointer (some { block := y, off := 0 })), (11, Value.slice d_a d_l d_c), (12, Value.slice e_a e_l e_c), (13, Value.slice g_a g_l g_c), (14, Value.int IntKind.i64 (IntKind.i64.wrap (n' + 1)))], todo := pt Try.prog fLaw10SpfCut [1, 1, 1, 1, 1, 1, 1, 1, 0, 1, 0, 0] } m (n + 30) Q
 else W Try.prog { fn := fLaw10SpfCut, nt := 220, slots := [(1, Value.int IntKind.i64 link_1), (2, Value.int IntKind.i64 from'_1), (3, Value.int IntKind.i64 to_1), (4, Value.pointer (some { block := x, off := 0 })), (9, Value.bool ok), (10, Value.pointer (some { block := y, off := 0 })), (11, Value.slice d_a d_l d_c), (12, Value.slice e_a e_l e_c), (13, Value.slice g_a g_l g_c), (14, Value.int IntKind.i64 (IntKind.i64.wrap (n' + 1)))], todo := pt Try.prog fLaw10SpfCut [1, 1, 1, 1, 1, 1, 1, 1, 0, 1, 0, 0] } m (n + 30) Q
 else
 elimA e_a False fun (k21 k22 : Nat) (p23 : Option Nat) =>
 (0 ≤ n' ∧ n' < (↑e_l : Int) ∧ liveAt m k21 = true ∧ (p23 ≠ none → 0 < e_c)) ∧
 ∃ (x24 : Int),
 rd m k21 (offOf k22 p23 + n'.toNat * 1) = some (Value.int IntKind.i64 x24) ∧
 bif decide (x24 ≥ 0) then
 elimA e_a False fun (k25 k26 : Nat) (p27 : Option Nat) =>
 (0 ≤ n' ∧ n' < (↑e_l : Int) ∧ liveAt m k25 = true ∧ (p27 ≠ none → 0 < e_c)) ∧
 ∃ (x28 : Int),
 rd m k25 (offOf k26 p27 + n'.toNat * 1) = some (Value.int IntKind.i64 x28) ∧
 elimA d_a False fun (k29 k30 : Nat) (p31 : Option Nat) => (0 ≤ n' ∧ n' < (↑d_l : Int) ∧ liveAt m k29 = true ∧ (p31 ≠ none → 0 < d_c)) ∧ ∃ (x32 : Int), rd m k29 (offOf k30 p31 + n'.toNat * 1) = some (Value.int IntKind.i64 x32) ∧ bif decide (x28 < x32) then Q (Value.bool false) m (n + 30) else W Try.prog { fn := fLaw10SpfCut, nt := 220, slots := [(1, Value.int IntKind.i64 link_1), (2, Value.int IntKind.i64 from'_1), (3, Value.int IntKind.i64 to_1), (4, Value.pointer (some { block := x, off := 0 })), (9, Value.bool ok), (10, Value.pointer (some { block := y, off := 0 })), (11, Value.slice d_a d_l d_c), (12, Value.slice e_a e_l e_c), (13, Value.slice g_a g_l g_c), (14, Value.int IntKind.i64 (IntKind.i64.wrap (n' + 1)))], todo := pt Try.prog fLaw10SpfCut [1, 1, 1, 1, 1, 1, 1, 1, 0, 1, 0, 0] } m (n + 30) Q
 else W Try.prog { fn := fLaw10SpfCut, nt := 220, slots := [(1, Value.int IntKind.i64 link_1), (2, Value.int IntKind.i64 from'_1), (3, Value.int IntKind.i64 to_1), (4, Value.pointer (some { block := x, off := 0 })), (9, Value.bool ok), (10, Value.pointer (some { block := y, off := 0 })), (11, Value.slice d_a d_l d_c), (12, Value.slice e_a e_l e_c), (13, Value.slice g_a g_l g_c), (14, Value.int IntKind.i64 (IntKind.i64.wrap (n' + 1)))], todo := pt Try.prog fLaw10SpfCut [1, 1, 1, 1, 1, 1, 1, 1, 0, 1, 0, 0] } m (n + 30) Q
 else
 isC m x = true ∧
 ∃ (p33 : Option Addr),
 ∃ (k34 : Nat),
 ∃ (k35 : Nat),
 rd m x 1 = some (Value.slice p33 k34 k35) ∧
 elimA p33 False fun (k36 k37 : Nat) (p38 : Option Nat) =>
 (0 ≤ link_1 ∧ link_1 < (↑k34 : Int) ∧ liveAt m k36 = true ∧ (p38 ≠ none → 0 < k35)) ∧
 ∃ (x39 : Int),
 ∃ (x40 : Int),
 ∃ (x41 : Int),
 rds m k36 (offOf k37 p38 + link_1.toNat * 3) 3 = some [Value.int IntKind.i64 x39, Value.int IntKind.i64 x40, Value.int IntKind.i64 x41] ∧
 memLet (Tr.set m n (AObj.cells none tApiLink 3 [Value.int IntKind.i64 0, Value.int IntKind.i64 0, Value.int IntKind.i64 0])) fun (m42 : Mem) =>
 ∃ (m43 : Mem),
 storeCs m42 n 0 [Value.int IntKind.i64 x39, Value.int IntKind.i64 x40, Value.int IntKind.i64 x41] = some m43 ∧
 isC m43 x = true ∧
 ∃ (p44 : Option Addr),
 ∃ (k45 : Nat),
 ∃ (k46 : Nat),
 rd m43 x 2 = some (Value.slice p44 k45 k46) ∧
 elimA p44 False fun (k47 k48 : Nat) (p49 : Option Nat) =>
 (0 ≤ link_1 ∧ link_1 < (↑k45 : Int) ∧ liveAt m43 k47 = true ∧ (p49 ≠ none → 0 < k46)) ∧
 ∃ (b50 : Bool),
 rd m43 k47 (offOf k48 p49 + link_1.toNat * 1) = some (Value.bool b50) ∧
 bif b50 then
 elimA d_a False fun (k51 k52 : Nat) (p53 : Option Nat) =>
 (0 ≤ to_1 ∧ to_1 < (↑d_l : Int) ∧ liveAt m43 k51 = true ∧ (p53 ≠ none → 0 < d_c)) ∧
 ∃ (x54 : Int),
 rd m43 k51 (offOf k52 p53 + to_1.toNat * 1) = some (Value.int IntKind.i64 x54) ∧
 bif decide (x54 ≥ 0) then
 isC m43 n = true ∧
 ∃ (x55 : Int),
 rd m43 n 0 = some (Value.int IntKind.i64 x55) ∧
 elimA d_a False fun (k56 k57 : Nat) (p58 : Option Nat) =>
 (0 ≤ x55 ∧ x55 < (↑d_l : Int) ∧ liveAt m43 k56 = true ∧ (p58 ≠ none → 0 < d_c)) ∧
 ∃ (x59 : Int),
 rd m43 k56 (offOf k57 p58 + x55.toNat * 1) = some (Value.int IntKind.i64 x59) ∧
 bif decide (x59 ≥ 0) then
 isC m43 n = true ∧
 ∃ (x60 : Int),
 rd m43 n 0 = some (Value.int IntKind.i64 x60) ∧
 elimA d_a False fun (k61 k62 : Nat) (p63 : Option Nat) =>
 (0 ≤ x60 ∧ x60 < (↑d_l : Int) ∧ liveAt m43 k61 = true ∧ (p63 ≠ none → 0 < d_c)) ∧
 ∃ (x64 : Int),
 rd m43 k61 (offOf k62 p63 + x60.toNat * 1) = some (Value.int IntKind.i64 x64) ∧
 isC m43 n = true ∧
 ∃ (x65 : Int),
 rd m43 n 2 = some (Value.int IntKind.i64 x65) ∧
 isC m43 n = true ∧
 ∃ (x66 : Int),
 rd m43 n 1 = some (Value.int IntKind.i64 x66) ∧
 elimA g_a False fun (k67 k68 : Nat) (p69 : Option Nat) =>
 (0 ≤ x66 ∧ x66 < (↑g_l : Int) ∧ liveAt m43 k67 = true ∧ (p69 ≠ none → 0 < g_c)) ∧
 ∃ (x70 : Int),
 rd m43 k67 (offOf k68 p69 + x66.toNat * 1) = some (Value.int IntKind.i64 x70) ∧
 elimA d_a False fun (k71 k72 : Nat) (p73 : Option Nat) =>
 (0 ≤ to_1 ∧ to_1 < (↑d_l : Int) ∧ liveAt m43 k71 = true ∧ (p73 ≠ none → 0 < d_c)) ∧
 ∃ (x74 : Int),
 rd m43 k71 (offOf k72 p73 + to_1.toNat * 1) = some (Value.int IntKind.i64 x74) ∧
 bif IntKind.i64.wrap (IntKind.i64.wrap (x64 + x65) + x70) == x74 then W Try.prog { fn := fLaw10SpfCut, nt := 220, slots := [(2, Value.int IntKind.i64 from'_1), (3, Value.int IntKind.i64 to_1), (4, Value.pointer (some { block := x, off := 0 })), (9, Value.bool ok), (10, Value.pointer (some { block := y, off := 0 })), (11, Value.slice d_a d_l d_c), (12, Value.slice e_a e_l e_c), (16, Value.bool true)], todo := pt Try.prog fLaw10SpfCut [1, 1, 1, 1, 1, 1, 1, 1, 1, 1, 1, 0, 0] } m43 (n + 1 + 63) Q
 else
 isC m43 n = true ∧
 ∃ (x75 : Int),
 rd m43 n 1 = some (Value.int IntKind.i64 x75) ∧
 elimA d_a False fun (k76 k77 : Nat) (p78 : Option Nat) =>
 (0 ≤ x75 ∧ x75 < (↑d_l : Int) ∧ liveAt m43 k76 = true ∧ (p78 ≠ none → 0 < d_c)) ∧
 ∃ (x79 : Int),
 rd m43 k76 (offOf k77 p78 + x75.toNat * 1) = some (Value.int IntKind.i64 x79) ∧
 isC m43 n = true ∧
 ∃ (x80 : Int),
 rd m43 n 2 = some (Value.int IntKind.i64 x80) ∧
 isC m43 n = true ∧
 ∃ (x81 : Int),
 rd m43 n 0 = some (Value.int IntKind.i64 x81) ∧
 elimA g_a False fun (k82 k83 : Nat) (p84 : Option Nat) =>
 (0 ≤ x81 ∧ x81 < (↑g_l : Int) ∧ liveAt m43 k82 = true ∧ (p84 ≠ none → 0 < g_c)) ∧
 ∃ (x85 : Int),
 rd m43 k82 (offOf k83 p84 + x81.toNat * 1) = some (Value.int IntKind.i64 x85) ∧
 elimA d_a False fun (k86 k87 : Nat) (p88 : Option Nat) => (0 ≤ to_1 ∧ to_1 < (↑d_l : Int) ∧ liveAt m43 k86 = true ∧ (p88 ≠ none → 0 < d_c)) ∧ ∃ (x89 : Int), rd m43 k86 (offOf k87 p88 + to_1.toNat * 1) = some (Value.int IntKind.i64 x89) ∧ W Try.prog { fn := fLaw10SpfCut, nt := 220, slots := [(2, Value.int IntKind.i64 from'_1), (3, Value.int IntKind.i64 to_1), (4, Value.pointer (some { block := x, off := 0 })), (9, Value.bool ok), (10, Value.pointer (some { block := y, off := 0 })), (11, Value.slice d_a d_l d_c), (12, Value.slice e_a e_l e_c), (16, Value.bool (IntKind.i64.wrap (IntKind.i64.wrap (x79 + x80) + x85) == x89))], todo := pt Try.prog fLaw10SpfCut [1, 1, 1, 1, 1, 1, 1, 1, 1, 1, 1, 0, 0] } m43 (n + 1 + 63) Q
 else W Try.prog { fn := fLaw10SpfCut, nt := 220, slots := [(2, Value.int IntKind.i64 from'_1), (3, Value.int IntKind.i64 to_1), (4, Value.pointer (some { block := x, off := 0 })), (9, Value.bool ok), (10, Value.pointer (some { block := y, off := 0 })), (11, Value.slice d_a d_l d_c), (12, Value.slice e_a e_l e_c), (16, Value.bool false)], todo := pt Try.prog fLaw10SpfCut [1, 1, 1, 1, 1, 1, 1, 1, 1, 1, 1, 0, 0] } m43 (n + 1 + 63) Q
 else W Try.prog { fn := fLaw10SpfCut, nt := 220, slots := [(2, Value.int IntKind.i64 from'_1), (3, Value.int IntKind.i64 to_1), (4, Value.pointer (some { block := x, off := 0 })), (9, Value.bool ok), (10, Value.pointer (some { block := y, off := 0 })), (11, Value.slice d_a d_l d_c), (12, Value.slice e_a e_l e_c), (16, Value.bool false)], todo := pt Try.prog fLaw10SpfCut [1, 1, 1, 1, 1, 1, 1, 1, 1, 1, 1, 0, 0] } m43 (n + 1 + 63) Q
 else W Try.prog { fn := fLaw10SpfCut, nt := 220, slots := [(2, Value.int IntKind.i64 from'_1), (3, Value.int IntKind.i64 to_1), (4, Value.pointer (some { block := x, off := 0 })), (9, Value.bool ok), (10, Value.pointer (some { block := y, off := 0 })), (11, Value.slice d_a d_l d_c), (12, Value.slice e_a e_l e_c), (16, Value.bool false)], todo := pt Try.prog fLaw10SpfCut [1, 1, 1, 1, 1, 1, 1, 1, 1, 1, 1, 0, 0] } m43 (n + 1 + 63) Q) := by kernel_rfl

theorem xLaw10SpfCutk1 (m : Mem) (n : Nat) (Q : Value → Mem → Nat → Prop) (from'_2 : Int) (to_2 : Int) (x_1 : Option Addr) (ok_1 : Bool) (y_1 : Option Addr) (d_a_1 : Option Addr) (d_l_1 : Nat) (d_c_1 : Nat) (e_a_1 : Option Addr) (e_l_1 : Nat) (e_c_1 : Nat) (on' : Bool) :
 xF (ev1 Try.prog xcfg 400) { fn := fLaw10SpfCut, nt := 220, slots := [(2, Value.int IntKind.i64 from'_2), (3, Value.int IntKind.i64 to_2), (4, Value.pointer x_1), (9, Value.bool ok_1), (10, Value.pointer y_1), (11, Value.slice d_a_1 d_l_1 d_c_1), (12, Value.slice e_a_1 e_l_1 e_c_1), (16, Value.bool on')], todo := pt Try.prog fLaw10SpfCut [1, 1, 1, 1, 1, 1, 1, 1, 1, 1, 1, 0, 0] } m n Q =
 (bif on' then Q (Value.bool ok_1) m n else W Try.prog { fn := fLaw10SpfCut, nt := 220, slots := [(2, Value.int IntKind.i64 from'_2), (3, Value.int IntKind.i64 to_2), (4, Value.pointer x_1), (9, Value.bool ok_1), (10, Value.pointer y_1), (11, Value.slice d_a_1 d_l_1 d_c_1), (12, Value.slice e_a_1 e_l_1 e_c_1)], todo := pt Try.prog fLaw10SpfCut [1, 1, 1, 1, 1, 1, 1, 1, 1, 1, 1, 1, 0] } m n Q) := by kernel_rfl

theorem xLaw10SpfCutk2 (m : Mem) (n : Nat) (Q : Value → Mem → Nat → Prop) (from'_3 : Int) (to_3 : Int) (x_2 : Option Addr) (ok_2 : Bool) (y_2 : Option Addr) (d_a_2 : Option Addr) (d_l_2 : Nat) (d_c_2 : Nat) (e_a_2 : Option Addr) (e_l_2 : Nat) (e_c_2 : Nat) :
 xF (ev1 Try.prog xcfg 400) { fn := fLaw10SpfCut, nt := 220, slots := [(2, Value.int IntKind.i64 from'_3), (3, Value.int IntKind.i64 to_3), (4, Value.pointer x_2), (9, Value.bool ok_2), (10, Value.pointer y_2), (11, Value.slice d_a_2 d_l_2 d_c_2), (12, Value.slice e_a_2 e_l_2 e_c_2)], todo := pt Try.prog fLaw10SpfCut [1, 1, 1, 1, 1, 1, 1, 1, 1, 1, 1, 1, 0] } m n Q =
 (bif ok_2 then
 elimA d_a_2 False fun (k0 k1 : Nat) (p2 : Option Nat) =>
 (0 ≤ to_3 ∧ to_3 < (↑d_l_2 : Int) ∧ liveAt m k0 = true ∧ (p2 ≠ none → 0 < d_c_2)) ∧
 ∃ (x3 : Int),
 rd m k0 (offOf k1 p2 + to_3.toNat * 1) = some (Value.int IntKind.i64 x3) ∧
 elimA e_a_2 False fun (k4 k5 : Nat) (p6 : Option Nat) =>
 (0 ≤ to_3 ∧ to_3 < (↑e_l_2 : Int) ∧ liveAt m k4 = true ∧ (p6 ≠ none → 0 < e_c_2)) ∧
 ∃ (x7 : Int),
 rd m k4 (offOf k5 p6 + to_3.toNat * 1) = some (Value.int IntKind.i64 x7) ∧
 bif x3 == x7 then
 elimP x_2 False fun (k8 k9 : Nat) =>
 ∃ (x10 : Int),
 ∃ (p11 : Option Addr),
 ∃ (k12 : Nat),
 ∃ (k13 : Nat),
 ∃ (p14 : Option Addr),
 ∃ (k15 : Nat),
 ∃ (k16 : Nat),
 rds m k8 k9 3 = some [Value.int IntKind.i64 x10, Value.slice p11 k12 k13, Value.slice p14 k15 k16] ∧
 ∃ (p17 : Option Addr),
 ∃ (k18 : Nat),
 ∃ (k19 : Nat),
 ∃ (m20 : Mem),
 ∃ (k21 : Nat),
 (Wc Try.prog fLaw10Netnext [Value.agg { toList := [Value.int IntKind.i64 x10, Value.slice p11 k12 k13, Value.slice p14 k15 k16] }, Value.int IntKind.i64 from'_3, Value.int IntKind.i64 to_3] m (n + 35) fun (v22 : Value) (m23 : Mem) (k24 : Nat) => v22 = Value.slice p17 k18 k19 ∧ m23 = m20 ∧ k24 = k21) ∧
 Later
 (elimP y_2 False fun (k25 k26 : Nat) =>
 ∃ (x27 : Int),
 ∃ (p28 : Option Addr),
 ∃ (k29 : Nat),
 ∃ (k30 : Nat),
 ∃ (p31 : Option Addr),
 ∃ (k32 : Nat),
 ∃ (k33 : Nat),
 rds m20 k25 k26 3 = some [Value.int IntKind.i64 x27, Value.slice p28 k29 k30, Value.slice p31 k32 k33] ∧
 ∃ (p34 : Option Addr),
 ∃ (k35 : Nat),
 ∃ (k36 : Nat),
 ∃ (m37 : Mem),
 ∃ (k38 : Nat),
 (Wc Try.prog fLaw10Netnext [Value.agg { toList := [Value.int IntKind.i64 x27, Value.slice p28 k29 k30, Value.slice p31 k32 k33] }, Value.int IntKind.i64 from'_3, Value.int IntKind.i64 to_3] m20 k21 fun (v39 : Value) (m40 : Mem) (k41 : Nat) => v39 = Value.slice p34 k35 k36 ∧ m40 = m37 ∧ k41 = k38) ∧
 Later
 (∃ (b42 : Bool),
 ∃ (m43 : Mem),
 ∃ (k44 : Nat),
 (Wc Try.prog fKitSameint [Value.slice p17 k18 k19, Value.slice p34 k35 k36] m37 k38 fun (v45 : Value) (m46 : Mem) (k47 : Nat) => v45 = Value.bool b42 ∧ m46 = m43 ∧ k47 = k44) ∧
 Later
 (bif b42 then
 elimP x_2 False fun (k48 k49 : Nat) =>
 ∃ (x50 : Int),
 ∃ (p51 : Option Addr),
 ∃ (k52 : Nat),
 ∃ (k53 : Nat),
 ∃ (p54 : Option Addr),
 ∃ (k55 : Nat),
 ∃ (k56 : Nat),
 rds m43 k48 k49 3 = some [Value.int IntKind.i64 x50, Value.slice p51 k52 k53, Value.slice p54 k55 k56] ∧
 ∃ (x57 : Int),
 ∃ (m58 : Mem),
 ∃ (k59 : Nat),
 (Wc Try.prog fLaw10Netpaths [Value.agg { toList := [Value.int IntKind.i64 x50, Value.slice p51 k52 k53, Value.slice p54 k55 k56] }, Value.int IntKind.i64 from'_3, Value.int IntKind.i64 to_3] m43 k44 fun (v60 : Value) (m61 : Mem) (k62 : Nat) => v60 = Value.int IntKind.i64 x57 ∧ m61 = m58 ∧ k62 = k59) ∧
 Later
 (elimP y_2 False fun (k63 k64 : Nat) =>
 ∃ (x65 : Int),
 ∃ (p66 : Option Addr),
 ∃ (k67 : Nat),
 ∃ (k68 : Nat),
 ∃ (p69 : Option Addr),
 ∃ (k70 : Nat),
 ∃ (k71 : Nat),
 rds m58 k63 k64 3 = some [Value.int IntKind.i64 x65, Value.slice p66 k67 k68, Value.slice p69 k70 k71] ∧
 ∃ (x72 : Int),
 ∃ (m73 : Mem),
 ∃ (k74 : Nat),
 (Wc Try.prog fLaw10Netpaths [Value.agg { toList := [Value.int IntKind.i64 x65, Value.slice p66 k67 k68, Value.slice p69 k70 k71] }, Value.int IntKind.i64 from'_3, Value.int IntKind.i64 to_3] m58 k59 fun (v75 : Value) (m76 : Mem) (k77 : Nat) => v75 = Value.int IntKind.i64 x72 ∧ m76 = m73 ∧ k77 = k74) ∧
 Later
 ((elimP y_2 False fun (k78 k79 : Nat) => ∃ (x80 : Int), ∃ (p81 : Option Addr), ∃ (k82 : Nat), ∃ (k83 : Nat), ∃ (p84 : Option Addr), ∃ (k85 : Nat), ∃ (k86 : Nat), rds m43 k78 k79 3 = some [Value.int IntKind.i64 x80, Value.slice p81 k82 k83, Value.slice p84 k85 k86] ∧ Value.agg { toList := [Value.int IntKind.i64 x80, Value.slice p81 k82 k83, Value.slice p84 k85 k86] } = Value.agg { toList := [Value.int IntKind.i64 x65, Value.slice p66 k67 k68, Value.slice p69 k70 k71] }) ∧
 (elimP y_2 False fun (k87 k88 : Nat) => ∃ (x89 : Int), ∃ (p90 : Option Addr), ∃ (k91 : Nat), ∃ (k92 : Nat), ∃ (p93 : Option Addr), ∃ (k94 : Nat), ∃ (k95 : Nat), rds m k87 k88 3 = some [Value.int IntKind.i64 x89, Value.slice p90 k91 k92, Value.slice p93 k94 k95] ∧ Value.agg { toList := [Value.int IntKind.i64 x89, Value.slice p90 k91 k92, Value.slice p93 k94 k95] } = Value.agg { toList := [Value.int IntKind.i64 x27, Value.slice p28 k29 k30, Value.slice p31 k32 k33] }) ∧ n + 35 ≤ k21 ∧ n + 35 ≤ k38 ∧ n + 35 ≤ k44 ∧ n + 35 ≤ k59 ∧ n + 35 ≤ k74 ∧ Q (Value.bool (x57 == x72)) m73 k74))
 else (elimP y_2 False fun (k96 k97 : Nat) => ∃ (x98 : Int), ∃ (p99 : Option Addr), ∃ (k100 : Nat), ∃ (k101 : Nat), ∃ (p102 : Option Addr), ∃ (k103 : Nat), ∃ (k104 : Nat), rds m k96 k97 3 = some [Value.int IntKind.i64 x98, Value.slice p99 k100 k101, Value.slice p102 k103 k104] ∧ Value.agg { toList := [Value.int IntKind.i64 x98, Value.slice p99 k100 k101, Value.slice p102 k103 k104] } = Value.agg { toList := [Value.int IntKind.i64 x27, Value.slice p28 k29 k30, Value.slice p31 k32 k33] }) ∧ n + 35 ≤ k21 ∧ n + 35 ≤ k38 ∧ n + 35 ≤ k44 ∧ Q (Value.bool false) m43 k44)))
 else Q (Value.bool false) m (n + 35)
 else Q (Value.bool false) m (n + 35)) := by kernel_rfl

/- 11 leafmesh/leafmeshlaw10.SpfTree -/
theorem xLaw10SpfTree (m : Mem) (n : Nat) (Q : Value → Mem → Nat → Prop) (x0 : Int) (x1_a : Option Addr) (x1_l : Nat) (x1_c : Nat) (x2_a : Option Addr) (x2_l : Nat) (x2_c : Nat) (from' : Int) (to : Int) :
 Xc Try.prog xcfg 400 fLaw10SpfTree [Value.agg { toList := [Value.int IntKind.i64 x0, Value.slice x1_a x1_l x1_c, Value.slice x2_a x2_l x2_c] }, Value.int IntKind.i64 from', Value.int IntKind.i64 to] m n Q =
 (memLet (Tr.set m n (AObj.cells none tLaw10Net 3 [Value.int IntKind.i64 x0, Value.slice x1_a x1_l x1_c, Value.slice x2_a x2_l x2_c])) fun (m0 : Mem) =>
 Wc Try.prog fLaw10SpfKnown [] m0 (n + 1) fun (v1 : Value) (m2 : Mem) (k3 : Nat) =>
 ∃ (b4 : Bool),
 v1 = Value.bool b4 ∧
 Later
 (∃ (x5 : Int),
 ∃ (p6 : Option Addr),
 ∃ (k7 : Nat),
 ∃ (k8 : Nat),
 ∃ (p9 : Option Addr),
 ∃ (k10 : Nat),
 ∃ (k11 : Nat),
 rds m2 n 0 3 = some [Value.int IntKind.i64 x5, Value.slice p6 k7 k8, Value.slice p9 k10 k11] ∧
 Wc Try.prog fLaw10valid [Value.agg { toList := [Value.int IntKind.i64 x5, Value.slice p6 k7 k8, Value.slice p9 k10 k11] }] m2 k3 fun (v12 : Value) (m13 : Mem) (k14 : Nat) =>
 ∃ (b15 : Bool),
 v12 = Value.bool b15 ∧
 Later
 (bif !b15 then Q (Value.bool b4) m13 k14
 else
 isC m13 n = true ∧
 ∃ (x16 : Int),
 rd m13 n 0 = some (Value.int IntKind.i64 x16) ∧
 ∃ (x17 : Int),
 ∃ (m18 : Mem),
 ∃ (k19 : Nat),
 (Wc Try.prog fKitPick [Value.int IntKind.i64 from', Value.int IntKind.i64 x16] m13 (k14 + 10) fun (v20 : Value) (m21 : Mem) (k22 : Nat) => v20 = Value.int IntKind.i64 x17 ∧ m21 = m18 ∧ k22 = k19) ∧
 Later
 (isC m18 n = true ∧
 ∃ (x23 : Int),
 rd m18 n 0 = some (Value.int IntKind.i64 x23) ∧
 ∃ (x24 : Int),
 ∃ (m25 : Mem),
 ∃ (k26 : Nat),
 (Wc Try.prog fKitPick [Value.int IntKind.i64 to, Value.int IntKind.i64 x23] m18 k19 fun (v27 : Value) (m28 : Mem) (k29 : Nat) => v27 = Value.int IntKind.i64 x24 ∧ m28 = m25 ∧ k29 = k26) ∧
 Later
 ((∃ (x30 : Int), rd m13 n 0 = some (Value.int IntKind.i64 x30) ∧ Value.int IntKind.i64 x30 = Value.int IntKind.i64 x23) ∧
 (isC m13 n = true ∧ Value.pointer (some { block := n, off := 0 }) = Value.pointer (some { block := n, off := 0 })) ∧
 k14 + 10 ≤ k19 ∧
 k14 + 10 ≤ k26 ∧
 ∃ (x31 : Int),
 ∃ (p32 : Option Addr),
 ∃ (k33 : Nat),
 ∃ (k34 : Nat),
 ∃ (p35 : Option Addr),
 ∃ (k36 : Nat),
 ∃ (k37 : Nat),
 rds m25 n 0 3 = some [Value.int IntKind.i64 x31, Value.slice p32 k33 k34, Value.slice p35 k36 k37] ∧
 ∃ (p38 : Option Addr),
 ∃ (k39 : Nat),
 ∃ (k40 : Nat),
 ∃ (m41 : Mem),
 ∃ (k42 : Nat),
 (Wc Try.prog fLaw10Netdist [Value.agg { toList := [Value.int IntKind.i64 x31, Value.slice p32 k33 k34, Value.slice p35 k36 k37] }, Value.int IntKind.i64 x17] m25 (k26 + 13) fun (v43 : Value) (m44 : Mem) (k45 : Nat) => v43 = Value.slice p38 k39 k40 ∧ m44 = m41 ∧ k45 = k42) ∧
 Later
 (∃ (x46 : Int),
 ∃ (p47 : Option Addr),
 ∃ (k48 : Nat),
 ∃ (k49 : Nat),
 ∃ (p50 : Option Addr),
 ∃ (k51 : Nat),
 ∃ (k52 : Nat),
 rds m41 n 0 3 = some [Value.int IntKind.i64 x46, Value.slice p47 k48 k49, Value.slice p50 k51 k52] ∧
 ∃ (p53 : Option Addr),
 ∃ (k54 : Nat),
 ∃ (k55 : Nat),
 ∃ (m56 : Mem),
 ∃ (k57 : Nat),
 (Wc Try.prog fLaw10Netpath [Value.agg { toList := [Value.int IntKind.i64 x46, Value.slice p47 k48 k49, Value.slice p50 k51 k52] }, Value.int IntKind.i64 x17, Value.int IntKind.i64 x24] m41 k42 fun (v58 : Value) (m59 : Mem) (k60 : Nat) => v58 = Value.slice p53 k54 k55 ∧ m59 = m56 ∧ k60 = k57) ∧
 Later
 (∃ (x61 : Int),
 ∃ (p62 : Option Addr),
 ∃ (k63 : Nat),
 ∃ (k64 : Nat),
 ∃ (p65 : Option Addr),
 ∃ (k66 : Nat),
 ∃ (k67 : Nat),
 rds m56 n 0 3 = some [Value.int IntKind.i64 x61, Value.slice p62 k63 k64, Value.slice p65 k66 k67] ∧
 ∃ (p68 : Option Addr),
 ∃ (k69 : Nat),
 ∃ (k70 : Nat),
 ∃ (m71 : Mem),
 ∃ (k72 : Nat),
 (Wc Try.prog fLaw10Netparents [Value.agg { toList := [Value.int IntKind.i64 x61, Value.slice p62 k63 k64, Value.slice p65 k66 k67] }, Value.int IntKind.i64 x17] m56 k57 fun (v73 : Value) (m74 : Mem) (k75 : Nat) => v73 = Value.slice p68 k69 k70 ∧ m74 = m71 ∧ k75 = k72) ∧
 Later
 ((∃ (x76 : Int), ∃ (p77 : Option Addr), ∃ (k78 : Nat), ∃ (k79 : Nat), ∃ (p80 : Option Addr), ∃ (k81 : Nat), ∃ (k82 : Nat), rds m25 n 0 3 = some [Value.int IntKind.i64 x76, Value.slice p77 k78 k79, Value.slice p80 k81 k82] ∧ Value.agg { toList := [Value.int IntKind.i64 x76, Value.slice p77 k78 k79, Value.slice p80 k81 k82] } = Value.agg { toList := [Value.int IntKind.i64 x61, Value.slice p62 k63 k64, Value.slice p65 k66 k67] }) ∧
 (∃ (x83 : Int), ∃ (p84 : Option Addr), ∃ (k85 : Nat), ∃ (k86 : Nat), ∃ (p87 : Option Addr), ∃ (k88 : Nat), ∃ (k89 : Nat), rds m41 n 0 3 = some [Value.int IntKind.i64 x83, Value.slice p84 k85 k86, Value.slice p87 k88 k89] ∧ Value.agg { toList := [Value.int IntKind.i64 x83, Value.slice p84 k85 k86, Value.slice p87 k88 k89] } = Value.agg { toList := [Value.int IntKind.i64 x61, Value.slice p62 k63 k64, Value.slice p65 k66 k67] }) ∧
 (∃ (x90 : Int), ∃ (p91 : Option Addr), ∃ (k92 : Nat), ∃ (k93 : Nat), ∃ (p94 : Option Addr), ∃ (k95 : Nat), ∃ (k96 : Nat), rds m25 n 0 3 = some [Value.int IntKind.i64 x90, Value.slice p91 k92 k93, Value.slice p94 k95 k96] ∧ Value.agg { toList := [Value.int IntKind.i64 x90, Value.slice p91 k92 k93, Value.slice p94 k95 k96] } = Value.agg { toList := [Value.int IntKind.i64 x46, Value.slice p47 k48 k49, Value.slice p50 k51 k52] }) ∧
 k26 + 13 ≤ k42 ∧
 k26 + 13 ≤ k57 ∧
 k26 + 13 ≤ k72 ∧
 isC m71 n = true ∧
 ∃ (x97 : Int),
 rd m71 n 0 = some (Value.int IntKind.i64 x97) ∧
 bif (↑k39 : Int) != x97 then Q (Value.bool false) m71 k72
 else
 isC m71 n = true ∧
 ∃ (x98 : Int),
 rd m71 n 0 = some (Value.int IntKind.i64 x98) ∧
 bif (↑k69 : Int) != x98 then Q (Value.bool false) m71 k72
 else
 elimA p68 False fun (k99 k100 : Nat) (p101 : Option Nat) =>
 (0 ≤ x17 ∧ x17 < (↑k69 : Int) ∧ liveAt m71 k99 = true ∧ (p101 ≠ none → 0 < k70)) ∧
 ∃ (x102 : Int),
 rd m71 k99 (offOf k100 p101 + x17.toNat * 1) = some (Value.int IntKind.i64 x102) ∧
 bif x102 != -1 then Q (Value.bool false) m71 k72
 else
 elimA p38 False fun (k103 k104 : Nat) (p105 : Option Nat) =>
 (0 ≤ x24 ∧ x24 < (↑k39 : Int) ∧ liveAt m71 k103 = true ∧ (p105 ≠ none → 0 < k40)) ∧
 ∃ (x106 : Int), rd m71 k103 (offOf k104 p105 + x24.toNat * 1) = some (Value.int IntKind.i64 x106) ∧ bif !decide ((↑k54 : Int) > 0) == decide (x106 > 0) then Q (Value.bool false) m71 k72 else W Try.prog { fn := fLaw10SpfTree, nt := 216, slots := [(1, Value.int IntKind.i64 x17), (2, Value.int IntKind.i64 x24), (3, Value.pointer (some { block := n, off := 0 })), (7, Value.bool b4), (8, Value.slice p38 k39 k40), (9, Value.slice p53 k54 k55), (10, Value.slice p68 k69 k70), (11, Value.int IntKind.i64 x17), (12, Value.int IntKind.i64 0), (13, Value.int IntKind.i64 0)], todo := pt Try.prog fLaw10SpfTree [1, 1, 1, 1, 1, 1, 1, 0, 1, 0, 0] } m71 k72 Q)))))))) := by kernel_rfl

theorem xLaw10SpfTreek0 (m : Mem) (n : Nat) (Q : Value → Mem → Nat → Prop) (from'_1 : Int) (to_1 : Int) (x : Nat) (ok : Bool) (d_a : Option Addr) (d_l : Nat) (d_c : Nat) (l_a : Option Addr) (l_l : Nat) (l_c : Nat) (p_a : Option Addr) (p_l : Nat) (p_c : Nat) (n' : Int) (length : Int) (i : Int) :
 xF (evX Try.prog xcfg 400) { fn := fLaw10SpfTree, nt := 216, slots := [(1, Value.int IntKind.i64 from'_1), (2, Value.int IntKind.i64 to_1), (3, Value.pointer (some { block := x, off := 0 })), (7, Value.bool ok), (8, Value.slice d_a d_l d_c), (9, Value.slice l_a l_l l_c), (10, Value.slice p_a p_l p_c), (11, Value.int IntKind.i64 n'), (12, Value.int IntKind.i64 length), (13, Value.int IntKind.i64 i)], todo := pt Try.prog fLaw10SpfTree [1, 1, 1, 1, 1, 1, 1, 0, 1, 0, 0] } m n Q =
 (bif decide (i < (↑l_l : Int)) then
 elimA l_a False fun (k0 k1 : Nat) (p2 : Option Nat) =>
 (0 ≤ i ∧ i < (↑l_l : Int) ∧ liveAt m k0 = true ∧ (p2 ≠ none → 0 < l_c)) ∧
 ∃ (x3 : Int),
 rd m k0 (offOf k1 p2 + i.toNat * 1) = some (Value.int IntKind.i64 x3) ∧
 bif decide (x3 < 0) then Q (Value.bool false) m (n + 52)
 else
 elimA l_a False fun (k4 k5 : Nat) (p6 : Option Nat) =>
 (0 ≤ i ∧ i < (↑l_l : Int) ∧ liveAt m k4 = true ∧ (p6 ≠ none → 0 < l_c)) ∧
 ∃ (x7 : Int),
 rd m k4 (offOf k5 p6 + i.toNat * 1) = some (Value.int IntKind.i64 x7) ∧
 isC m x = true ∧
 ∃ (p8 : Option Addr),
 ∃ (k9 : Nat),
 ∃ (k10 : Nat),
 rd m x 1 = some (Value.slice p8 k9 k10) ∧
 bif decide (x7 ≥ (↑k9 : Int)) then Q (Value.bool false) m (n + 52)
 else
 isC m x = true ∧
 ∃ (p11 : Option Addr),
 ∃ (k12 : Nat),
 ∃ (k13 : Nat),
 rd m x 2 = some (Value.slice p11 k12 k13) ∧
 elimA l_a False fun (k14 k15 : Nat) (p16 : Option Nat) =>
 (0 ≤ i ∧ i < (↑l_l : Int) ∧ liveAt m k14 = true ∧ (p16 ≠ none → 0 < l_c)) ∧
 ∃ (x17 : Int),
 rd m k14 (offOf k15 p16 + i.toNat * 1) = some (Value.int IntKind.i64 x17) ∧
 elimA p11 False fun (k18 k19 : Nat) (p20 : Option Nat) =>
 (0 ≤ x17 ∧ x17 < (↑k12 : Int) ∧ liveAt m k18 = true ∧ (p20 ≠ none → 0 < k13)) ∧
 ∃ (b21 : Bool),
 rd m k18 (offOf k19 p20 + x17.toNat * 1) = some (Value.bool b21) ∧
 bif !b21 then Q (Value.bool false) m (n + 52)
 else
 isC m x = true ∧
 ∃ (p22 : Option Addr),
 ∃ (k23 : Nat),
 ∃ (k24 : Nat),
 rd m x 1 = some (Value.slice p22 k23 k24) ∧
 elimA l_a False fun (k25 k26 : Nat) (p27 : Option Nat) =>
 (0 ≤ i ∧ i < (↑l_l : Int) ∧ liveAt m k25 = true ∧ (p27 ≠ none → 0 < l_c)) ∧
 ∃ (x28 : Int),
 rd m k25 (offOf k26 p27 + i.toNat * 1) = some (Value.int IntKind.i64 x28) ∧
 elimA p22 False fun (k29 k30 : Nat) (p31 : Option Nat) =>
 (0 ≤ x28 ∧ x28 < (↑k23 : Int) ∧ liveAt m k29 = true ∧ (p31 ≠ none → 0 < k24)) ∧
 isC m k29 = true ∧
 ∃ (x32 : Int),
 rd m k29 (offOf k30 p31 + x28.toNat * 3 + 0) = some (Value.int IntKind.i64 x32) ∧
 bif x32 != n' then
 isC m x = true ∧
 ∃ (p33 : Option Addr),
 ∃ (k34 : Nat),
 ∃ (k35 : Nat),
 rd m x 1 = some (Value.slice p33 k34 k35) ∧
 elimA l_a False fun (k36 k37 : Nat) (p38 : Option Nat) =>
 (0 ≤ i ∧ i < (↑l_l : Int) ∧ liveAt m k36 = true ∧ (p38 ≠ none → 0 < l_c)) ∧
 ∃ (x39 : Int),
 rd m k36 (offOf k37 p38 + i.toNat * 1) = some (Value.int IntKind.i64 x39) ∧
 elimA p33 False fun (k40 k41 : Nat) (p42 : Option Nat) =>
 (0 ≤ x39 ∧ x39 < (↑k34 : Int) ∧ liveAt m k40 = true ∧ (p42 ≠ none → 0 < k35)) ∧
 isC m k40 = true ∧
 ∃ (x43 : Int),
 rd m k40 (offOf k41 p42 + x39.toNat * 3 + 1) = some (Value.int IntKind.i64 x43) ∧
 bif x43 != n' then Q (Value.bool false) m (n + 52)
 else
 isC m x = true ∧
 ∃ (p44 : Option Addr),
 ∃ (k45 : Nat),
 ∃ (k46 : Nat),
 rd m x 1 = some (Value.slice p44 k45 k46) ∧
 elimA l_a False fun (k47 k48 : Nat) (p49 : Option Nat) =>
 (0 ≤ i ∧ i < (↑l_l : Int) ∧ liveAt m k47 = true ∧ (p49 ≠ none → 0 < l_c)) ∧
 ∃ (x50 : Int),
 rd m k47 (offOf k48 p49 + i.toNat * 1) = some (Value.int IntKind.i64 x50) ∧
 elimA p44 False fun (k51 k52 : Nat) (p53 : Option Nat) =>
 (0 ≤ x50 ∧ x50 < (↑k45 : Int) ∧ liveAt m k51 = true ∧ (p53 ≠ none → 0 < k46)) ∧
 ∃ (x54 : Int),
 ∃ (x55 : Int),
 ∃ (x56 : Int),
 rds m k51 (offOf k52 p53 + x50.toNat * 3) 3 = some [Value.int IntKind.i64 x54, Value.int IntKind.i64 x55, Value.int IntKind.i64 x56] ∧
 ∃ (x57 : Int),
 ∃ (m58 : Mem),
 ∃ (k59 : Nat),
 (Wc Try.prog fLaw10other [Value.agg { toList := [Value.int IntKind.i64 x54, Value.int IntKind.i64 x55, Value.int IntKind.i64 x56] }, Value.int IntKind.i64 n'] m (n + 52 + 23) fun (v60 : Value) (m61 : Mem) (k62 : Nat) => v60 = Value.int IntKind.i64 x57 ∧ m61 = m58 ∧ k62 = k59) ∧
 Later
 (isC m58 x = true ∧
 ∃ (p63 : Option Addr),
 ∃ (k64 : Nat),
 ∃ (k65 : Nat),
 rd m58 x 1 = some (Value.slice p63 k64 k65) ∧
 elimA l_a False fun (k66 k67 : Nat) (p68 : Option Nat) =>
 (0 ≤ i ∧ i < (↑l_l : Int) ∧ liveAt m58 k66 = true ∧ (p68 ≠ none → 0 < l_c)) ∧
 ∃ (x69 : Int),
 rd m58 k66 (offOf k67 p68 + i.toNat * 1) = some (Value.int IntKind.i64 x69) ∧
 elimA p63 False fun (k70 k71 : Nat) (p72 : Option Nat) =>
 (0 ≤ x69 ∧ x69 < (↑k64 : Int) ∧ liveAt m58 k70 = true ∧ (p72 ≠ none → 0 < k65)) ∧
 isC m58 k70 = true ∧
 ∃ (x73 : Int),
 rd m58 k70 (offOf k71 p72 + x69.toNat * 3 + 2) = some (Value.int IntKind.i64 x73) ∧
 Value.int IntKind.i64 (IntKind.i64.wrap (length + x73)) = Value.int IntKind.i64 (IntKind.i64.wrap (length + x73)) ∧
 (∃ (x74 : Int), rd m k70 (offOf k71 p72 + x69.toNat * 3 + 2) = some (Value.int IntKind.i64 x74) ∧ Value.int IntKind.i64 x74 = Value.int IntKind.i64 x73) ∧
 (isC m k70 = true ∧ Value.pointer (some { block := k70, off := offOf k71 p72 + x69.toNat * 3 + 2 }) = Value.pointer (some { block := k70, off := offOf k71 p72 + x69.toNat * 3 + 2 })) ∧
 (elimA p63 False fun (k75 k76 : Nat) (p77 : Option Nat) => (0 ≤ x69 ∧ x69 < (↑k64 : Int) ∧ liveAt m k75 = true ∧ (p77 ≠ none → 0 < k65)) ∧ Value.pointer (some { block := k75, off := offOf k76 p77 + x69.toNat * 3 }) = Value.pointer (some { block := k70, off := offOf k71 p72 + x69.toNat * 3 })) ∧
 (∃ (x78 : Int), rd m k66 (offOf k67 p68 + i.toNat * 1) = some (Value.int IntKind.i64 x78) ∧ Value.int IntKind.i64 x78 = Value.int IntKind.i64 x69) ∧
 (elimA l_a False fun (k79 k80 : Nat) (p81 : Option Nat) => (0 ≤ i ∧ i < (↑l_l : Int) ∧ liveAt m k79 = true ∧ (p81 ≠ none → 0 < l_c)) ∧ Value.pointer (some { block := k79, off := offOf k80 p81 + i.toNat * 1 }) = Value.pointer (some { block := k66, off := offOf k67 p68 + i.toNat * 1 })) ∧
 (∃ (p82 : Option Addr), ∃ (k83 : Nat), ∃ (k84 : Nat), rd m x 1 = some (Value.slice p82 k83 k84) ∧ Value.slice p82 k83 k84 = Value.slice p63 k64 k65) ∧
 (isC m x = true ∧ Value.pointer (some { block := x, off := 1 }) = Value.pointer (some { block := x, off := 1 })) ∧
 n + 52 + 23 ≤ k59 ∧
 ∃ (x85 : Int),
 ∃ (p86 : Option Addr),
 ∃ (k87 : Nat),
 ∃ (k88 : Nat),
 ∃ (p89 : Option Addr),
 ∃ (k90 : Nat),
 ∃ (k91 : Nat),
 rds m58 x 0 3 = some [Value.int IntKind.i64 x85, Value.slice p86 k87 k88, Value.slice p89 k90 k91] ∧
 Wc Try.prog fLaw10Netnext [Value.agg { toList := [Value.int IntKind.i64 x85, Value.slice p86 k87 k88, Value.slice p89 k90 k91] }, Value.int IntKind.i64 x57, Value.int IntKind.i64 from'_1] m58 k59 fun (v92 : Value) (m93 : Mem) (k94 : Nat) =>
 ∃ (p95 : Option Addr),
 ∃ (k96 : Nat),
 ∃ (k97 : Nat),
 v92 = Value.slice p95 k96 k97 ∧
 Later
 (bif (↑k96 : Int) == 0 then Q (Value.bool false) m93 (k94 + 36)
 else
 elimA p95 False fun (k98 k99 : Nat) (p100 : Option Nat) =>
 ((0 : Int) ≤ 0 ∧ 0 < (↑k96 : Int) ∧ liveAt m93 k98 = true ∧ (p100 ≠ none → 0 < k97)) ∧
 ∃ (x101 : Int),
 rd m93 k98 (offOf k99 p100 + 0) = some (Value.int IntKind.i64 x101) ∧
 elimA l_a False fun (k102 k103 : Nat) (p104 : Option Nat) =>
 (0 ≤ i ∧ i < (↑l_l : Int) ∧ liveAt m93 k102 = true ∧ (p104 ≠ none → 0 < l_c)) ∧
 ∃ (x105 : Int),
 rd m93 k102 (offOf k103 p104 + i.toNat * 1) = some (Value.int IntKind.i64 x105) ∧
 bif x101 != x105 then Q (Value.bool false) m93 (k94 + 36)
 else
 elimA p_a False fun (k106 k107 : Nat) (p108 : Option Nat) =>
 (0 ≤ x57 ∧ x57 < (↑p_l : Int) ∧ liveAt m93 k106 = true ∧ (p108 ≠ none → 0 < p_c)) ∧
 ∃ (x109 : Int),
 rd m93 k106 (offOf k107 p108 + x57.toNat * 1) = some (Value.int IntKind.i64 x109) ∧
 elimA l_a False fun (k110 k111 : Nat) (p112 : Option Nat) =>
 (0 ≤ i ∧ i < (↑l_l : Int) ∧ liveAt m93 k110 = true ∧ (p112 ≠ none → 0 < l_c)) ∧
 ∃ (x113 : Int),
 rd m93 k110 (offOf k111 p112 + i.toNat * 1) = some (Value.int IntKind.i64 x113) ∧
 bif x109 != x113 then Q (Value.bool false) m93 (k94 + 36)
 else
 ∃ (x114 : Int),
 ∃ (p115 : Option Addr),
 ∃ (k116 : Nat),
 ∃ (k117 : Nat),
 ∃ (p118 : Option Addr),
 ∃ (k119 : Nat),
 ∃ (k120 : Nat),
 rds m93 x 0 3 = some [Value.int IntKind.i64 x114, Value.slice p115 k116 k117, Value.slice p118 k119 k120] ∧
 ∃ (p121 : Option Addr),
 ∃ (k122 : Nat),
 ∃ (k123 : Nat),
 ∃ (m124 : Mem),
 ∃ (k125 : Nat),
 (Wc Try.prog fLaw10Netpath [Value.agg { toList := [Value.int IntKind.i64 x114, Value.slice p115 k116 k117, Value.slice p118 k119 k120] }, Value.int IntKind.i64 from'_1, Value.int IntKind.i64 x57] m93 (k94 + 36) fun (v126 : Value) (m127 : Mem) (k128 : Nat) => v126 = Value.slice p121 k122 k123 ∧ m127 = m124 ∧ k128 = k125) ∧
 Later
 (elimA l_a
 ((0 ≤ IntKind.i64.wrap (i + 1) ∧ IntKind.i64.wrap (i + 1) ≤ (↑l_c : Int)) ∧
 ∃ (b129 : Bool),
 ∃ (m130 : Mem),
 ∃ (k131 : Nat),
 (Wc Try.prog fKitSameint [Value.slice p121 k122 k123, Value.slice none ((IntKind.i64.wrap (i + 1)).toNat - 0) (l_c - 0)] m124 k125 fun (v132 : Value) (m133 : Mem) (k134 : Nat) => v132 = Value.bool b129 ∧ m133 = m130 ∧ k134 = k131) ∧
 Later
 (Value.int IntKind.i64 (IntKind.i64.wrap (i + 1)) = Value.int IntKind.i64 (IntKind.i64.wrap (i + 1)) ∧
 k94 + 36 ≤ k125 ∧
 k94 + 36 ≤ k131 ∧
 bif !b129 then Q (Value.bool false) m130 k131 else W Try.prog { fn := fLaw10SpfTree, nt := 216, slots := [(1, Value.int IntKind.i64 from'_1), (2, Value.int IntKind.i64 to_1), (3, Value.pointer (some { block := x, off := 0 })), (7, Value.bool ok), (8, Value.slice d_a d_l d_c), (9, Value.slice l_a l_l l_c), (10, Value.slice p_a p_l p_c), (11, Value.int IntKind.i64 x57), (12, Value.int IntKind.i64 (IntKind.i64.wrap (length + x73))), (13, Value.int IntKind.i64 (IntKind.i64.wrap (i + 1)))], todo := pt Try.prog fLaw10SpfTree [1, 1, 1, 1, 1, 1, 1, 0, 1, 0, 0] } m130 k131 Q))
 fun (k135 k136 : Nat) (p137 : Option Nat) =>
 (0 ≤ IntKind.i64.wrap (i + 1) ∧ IntKind.i64.wrap (i + 1) ≤ (↑l_c : Int)) ∧
 elimM p137
 (∃ (b138 : Bool),
 ∃ (m139 : Mem),
 ∃ (k140 : Nat),
 (Wc Try.prog fKitSameint [Value.slice p121 k122 k123, Value.slice (some { block := k135, off := if l_c = 0 then k136 else k136 + 0 }) ((IntKind.i64.wrap (i + 1)).toNat - 0) (l_c - 0)] m124 k125 fun (v141 : Value) (m142 : Mem) (k143 : Nat) => v141 = Value.bool b138 ∧ m142 = m139 ∧ k143 = k140) ∧
 Later
 (Value.int IntKind.i64 (IntKind.i64.wrap (i + 1)) = Value.int IntKind.i64 (IntKind.i64.wrap (i + 1)) ∧
 k94 + 36 ≤ k125 ∧
 k94 + 36 ≤ k140 ∧
 bif !b138 then Q (Value.bool false) m139 k140 else W Try.prog { fn := fLaw10SpfTree, nt := 216, slots := [(1, Value.int IntKind.i64 from'_1), (2, Value.int IntKind.i64 to_1), (3, Value.pointer (some { block := x, off := 0 })), (7, Value.bool ok), (8, Value.slice d_a d_l d_c), (9, Value.slice l_a l_l l_c), (10, Value.slice p_a p_l p_c), (11, Value.int IntKind.i64 x57), (12, Value.int IntKind.i64 (IntKind.i64.wrap (length + x73))), (13, Value.int IntKind.i64 (IntKind.i64.wrap (i + 1)))], todo := pt Try.prog fLaw10SpfTree [1, 1, 1, 1, 1, 1, 1, 0, 1, 0, 0] } m139 k140 Q))
 fun (k144 : Nat) =>
 (0 ≤ l_c ∧ 0 < l_c) ∧
 ∃ (b145 : Bool),
 ∃ (m146 : Mem),
 ∃ (k147 : Nat),
 (Wc Try.prog fKitSameint [Value.slice p121 k122 k123, Value.slice (some { block := k135, off := if l_c = 0 then k144 else k144 + 0, spot := some (k144 + 0) }) ((IntKind.i64.wrap (i + 1)).toNat - 0) (l_c - 0)] m124 k125 fun (v148 : Value) (m149 : Mem) (k150 : Nat) => v148 = Value.bool b145 ∧ m149 = m146 ∧ k150 = k147) ∧
 Later
 (Value.int IntKind.i64 (IntKind.i64.wrap (i + 1)) = Value.int IntKind.i64 (IntKind.i64.wrap (i + 1)) ∧
 k94 + 36 ≤ k125 ∧
 k94 + 36 ≤ k147 ∧
 bif !b145 then Q (Value.bool false) m146 k147
 else W Try.prog { fn := fLaw10SpfTree, nt := 216, slots := [(1, Value.int IntKind.i64 from'_1), (2, Value.int IntKind.i64 to_1), (3, Value.pointer (some { block := x, off := 0 })), (7, Value.bool ok), (8, Value.slice d_a d_l d_c), (9, Value.slice l_a l_l l_c), (10, Value.slice p_a p_l p_c), (11, Value.int IntKind.i64 x57), (12, Value.int IntKind.i64 (IntKind.i64.wrap (length + x73))), (13, Value.int IntKind.i64 (IntKind.i64.wrap (i + 1)))], todo := pt Try.prog fLaw10SpfTree [1, 1, 1, 1, 1, 1, 1, 0, 1, 0, 0] } m146 k147 Q))))
 else
 isC m x = true ∧
 ∃ (p151 : Option Addr),
 ∃ (k152 : Nat),
 ∃ (k153 : Nat),
 rd m x 1 = some (Value.slice p151 k152 k153) ∧
 elimA l_a False fun (k154 k155 : Nat) (p156 : Option Nat) =>
 (0 ≤ i ∧ i < (↑l_l : Int) ∧ liveAt m k154 = true ∧ (p156 ≠ none → 0 < l_c)) ∧
 ∃ (x157 : Int),
 rd m k154 (offOf k155 p156 + i.toNat * 1) = some (Value.int IntKind.i64 x157) ∧
 elimA p151 False fun (k158 k159 : Nat) (p160 : Option Nat) =>
 (0 ≤ x157 ∧ x157 < (↑k152 : Int) ∧ liveAt m k158 = true ∧ (p160 ≠ none → 0 < k153)) ∧
 ∃ (x161 : Int),
 ∃ (x162 : Int),
 ∃ (x163 : Int),
 rds m k158 (offOf k159 p160 + x157.toNat * 3) 3 = some [Value.int IntKind.i64 x161, Value.int IntKind.i64 x162, Value.int IntKind.i64 x163] ∧
 ∃ (x164 : Int),
 ∃ (m165 : Mem),
 ∃ (k166 : Nat),
 (Wc Try.prog fLaw10other [Value.agg { toList := [Value.int IntKind.i64 x161, Value.int IntKind.i64 x162, Value.int IntKind.i64 x163] }, Value.int IntKind.i64 n'] m (n + 52 + 23) fun (v167 : Value) (m168 : Mem) (k169 : Nat) => v167 = Value.int IntKind.i64 x164 ∧ m168 = m165 ∧ k169 = k166) ∧
 Later
 (isC m165 x = true ∧
 ∃ (p170 : Option Addr),
 ∃ (k171 : Nat),
 ∃ (k172 : Nat),
 rd m165 x 1 = some (Value.slice p170 k171 k172) ∧
 elimA l_a False fun (k173 k174 : Nat) (p175 : Option Nat) =>
 (0 ≤ i ∧ i < (↑l_l : Int) ∧ liveAt m165 k173 = true ∧ (p175 ≠ none → 0 < l_c)) ∧
 ∃ (x176 : Int),
 rd m165 k173 (offOf k174 p175 + i.toNat * 1) = some (Value.int IntKind.i64 x176) ∧
 elimA p170 False fun (k177 k178 : Nat) (p179 : Option Nat) =>
 (0 ≤ x176 ∧ x176 < (↑k171 : Int) ∧ liveAt m165 k177 = true ∧ (p179 ≠ none → 0 < k172)) ∧
 isC m165 k177 = true ∧
 ∃ (x180 : Int),
 rd m165 k177 (offOf k178 p179 + x176.toNat * 3 + 2) = some (Value.int IntKind.i64 x180) ∧
 Value.int IntKind.i64 (IntKind.i64.wrap (length + x180)) = Value.int IntKind.i64 (IntKind.i64.wrap (length + x180)) ∧
 (∃ (x181 : Int), rd m k177 (offOf k178 p179 + x176.toNat * 3 + 2) = some (Value.int IntKind.i64 x181) ∧ Value.int IntKind.i64 x181 = Value.int IntKind.i64 x180) ∧
 (isC m k177 = true ∧ Value.pointer (some { block := k177, off := offOf k178 p179 + x176.toNat * 3 + 2 }) = Value.pointer (some { block := k177, off := offOf k178 p179 + x176.toNat * 3 + 2 })) ∧
 (elimA p170 False fun (k182 k183 : Nat) (p184 : Option Nat) => (0 ≤ x176 ∧ x176 < (↑k171 : Int) ∧ liveAt m k182 = true ∧ (p184 ≠ none → 0 < k172)) ∧ Value.pointer (some { block := k182, off := offOf k183 p184 + x176.toNat * 3 }) = Value.pointer (some { block := k177, off := offOf k178 p179 + x176.toNat * 3 })) ∧
 (∃ (x185 : Int), rd m k173 (offOf k174 p175 + i.toNat * 1) = some (Value.int IntKind.i64 x185) ∧ Value.int IntKind.i64 x185 = Value.int IntKind.i64 x176) ∧
 (elimA l_a False fun (k186 k187 : Nat) (p188 : Option Nat) => (0 ≤ i ∧ i < (↑l_l : Int) ∧ liveAt m k186 = true ∧ (p188 ≠ none → 0 < l_c)) ∧ Value.pointer (some { block := k186, off := offOf k187 p188 + i.toNat * 1 }) = Value.pointer (some { block := k173, off := offOf k174 p175 + i.toNat * 1 })) ∧
 (∃ (p189 : Option Addr), ∃ (k190 : Nat), ∃ (k191 : Nat), rd m x 1 = some (Value.slice p189 k190 k191) ∧ Value.slice p189 k190 k191 = Value.slice p170 k171 k172) ∧
 (isC m x = true ∧ Value.pointer (some { block := x, off := 1 }) = Value.pointer (some { block := x, off := 1 })) ∧
 n + 52 + 23 ≤ k166 ∧
 ∃ (x192 : Int),
 ∃ (p193 : Option Addr),
 ∃ (k194 : Nat),
 ∃ (k195 : Nat),
 ∃ (p196 : Option Addr),
 ∃ (k197 : Nat),
 ∃ (k198 : Nat),
 rds m165 x 0 3 = some [Value.int IntKind.i64 x192, Value.slice p193 k194 k195, Value.slice p196 k197 k198] ∧
 Wc Try.prog fLaw10Netnext [Value.agg { toList := [Value.int IntKind.i64 x192, Value.slice p193 k194 k195, Value.slice p196 k197 k198] }, Value.int IntKind.i64 x164, Value.int IntKind.i64 from'_1] m165 k166 fun (v199 : Value) (m200 : Mem) (k201 : Nat) =>
 ∃ (p202 : Option Addr),
 ∃ (k203 : Nat),
 ∃ (k204 : Nat),
 v199 = Value.slice p202 k203 k204 ∧
 Later
 (bif (↑k203 : Int) == 0 then Q (Value.bool false) m200 (k201 + 36)
 else
 elimA p202 False fun (k205 k206 : Nat) (p207 : Option Nat) =>
 ((0 : Int) ≤ 0 ∧ 0 < (↑k203 : Int) ∧ liveAt m200 k205 = true ∧ (p207 ≠ none → 0 < k204)) ∧
 ∃ (x208 : Int),
 rd m200 k205 (offOf k206 p207 + 0) = some (Value.int IntKind.i64 x208) ∧
 elimA l_a False fun (k209 k210 : Nat) (p211 : Option Nat) =>
 (0 ≤ i ∧ i < (↑l_l : Int) ∧ liveAt m200 k209 = true ∧ (p211 ≠ none → 0 < l_c)) ∧
 ∃ (x212 : Int),
 rd m200 k209 (offOf k210 p211 + i.toNat * 1) = some (Value.int IntKind.i64 x212) ∧
 bif x208 != x212 then Q (Value.bool false) m200 (k201 + 36)
 else
 elimA p_a False fun (k213 k214 : Nat) (p215 : Option Nat) =>
 (0 ≤ x164 ∧ x164 < (↑p_l : Int) ∧ liveAt m200 k213 = true ∧ (p215 ≠ none → 0 < p_c)) ∧
 ∃ (x216 : Int),
 rd m200 k213 (offOf k214 p215 + x164.toNat * 1) = some (Value.int IntKind.i64 x216) ∧
 elimA l_a False fun (k217 k218 : Nat) (p219 : Option Nat) =>
 (0 ≤ i ∧ i < (↑l_l : Int) ∧ liveAt m200 k217 = true ∧ (p219 ≠ none → 0 < l_c)) ∧
 ∃ (x220 : Int),
 rd m200 k217 (offOf k218 p219 + i.toNat * 1) = some (Value.int IntKind.i64 x220) ∧
 bif x216 != x220 then Q (Value.bool false) m200 (k201 + 36)
 else
 ∃ (x221 : Int),
 ∃ (p222 : Option Addr),
 ∃ (k223 : Nat),
 ∃ (k224 : Nat),
 ∃ (p225 : Option Addr),
 ∃ (k226 : Nat),
 ∃ (k227 : Nat),
 rds m200 x 0 3 = some [Value.int IntKind.i64 x221, Value.slice p222 k223 k224, Value.slice p225 k226 k227] ∧
 ∃ (p228 : Option Addr),
 ∃ (k229 : Nat),
 ∃ (k230 : Nat),
 ∃ (m231 : Mem),
 ∃ (k232 : Nat),
 (Wc Try.prog fLaw10Netpath [Value.agg { toList := [Value.int IntKind.i64 x221, Value.slice p222 k223 k224, Value.slice p225 k226 k227] }, Value.int IntKind.i64 from'_1, Value.int IntKind.i64 x164] m200 (k201 + 36) fun (v233 : Value) (m234 : Mem) (k235 : Nat) => v233 = Value.slice p228 k229 k230 ∧ m234 = m231 ∧ k235 = k232) ∧
 Later
 (elimA l_a
 ((0 ≤ IntKind.i64.wrap (i + 1) ∧ IntKind.i64.wrap (i + 1) ≤ (↑l_c : Int)) ∧
 ∃ (b236 : Bool),
 ∃ (m237 : Mem),
 ∃ (k238 : Nat),
 (Wc Try.prog fKitSameint [Value.slice p228 k229 k230, Value.slice none ((IntKind.i64.wrap (i + 1)).toNat - 0) (l_c - 0)] m231 k232 fun (v239 : Value) (m240 : Mem) (k241 : Nat) => v239 = Value.bool b236 ∧ m240 = m237 ∧ k241 = k238) ∧
 Later
 (Value.int IntKind.i64 (IntKind.i64.wrap (i + 1)) = Value.int IntKind.i64 (IntKind.i64.wrap (i + 1)) ∧
 k201 + 36 ≤ k232 ∧
 k201 + 36 ≤ k238 ∧ bif !b236 then Q (Value.bool false) m237 k238 else W Try.prog { fn := fLaw10SpfTree, nt := 216, slots := [(1, Value.int IntKind.i64 from'_1), (2, Value.int IntKind.i64 to_1), (3, Value.pointer (some { block := x, off := 0 })), (7, Value.bool ok), (8, Value.slice d_a d_l d_c), (9, Value.slice l_a l_l l_c), (10, Value.slice p_a p_l p_c), (11, Value.int IntKind.i64 x164), (12, Value.int IntKind.i64 (IntKind.i64.wrap (length + x180))), (13, Value.int IntKind.i64 (IntKind.i64.wrap (i + 1)))], todo := pt Try.prog fLaw10SpfTree [1, 1, 1, 1, 1, 1, 1, 0, 1, 0, 0] } m237 k238 Q))
 fun (k242 k243 : Nat) (p244 : Option Nat) =>
 (0 ≤ IntKind.i64.wrap (i + 1) ∧ IntKind.i64.wrap (i + 1) ≤ (↑l_c : Int)) ∧
 elimM p244
 (∃ (b245 : Bool),
 ∃ (m246 : Mem),
 ∃ (k247 : Nat),
 (Wc Try.prog fKitSameint [Value.slice p228 k229 k230, Value.slice (some { block := k242, off := if l_c = 0 then k243 else k243 + 0 }) ((IntKind.i64.wrap (i + 1)).toNat - 0) (l_c - 0)] m231 k232 fun (v248 : Value) (m249 : Mem) (k250 : Nat) => v248 = Value.bool b245 ∧ m249 = m246 ∧ k250 = k247) ∧
 Later
 (Value.int IntKind.i64 (IntKind.i64.wrap (i + 1)) = Value.int IntKind.i64 (IntKind.i64.wrap (i + 1)) ∧
 k201 + 36 ≤ k232 ∧
 k201 + 36 ≤ k247 ∧ bif !b245 then Q (Value.bool false) m246 k247 else W Try.prog { fn := fLaw10SpfTree, nt := 216, slots := [(1, Value.int IntKind.i64 from'_1), (2, Value.int IntKind.i64 to_1), (3, Value.pointer (some { block := x, off := 0 })), (7, Value.bool ok), (8, Value.slice d_a d_l d_c), (9, Value.slice l_a l_l l_c), (10, Value.slice p_a p_l p_c), (11, Value.int IntKind.i64 x164), (12, Value.int IntKind.i64 (IntKind.i64.wrap (length + x180))), (13, Value.int IntKind.i64 (IntKind.i64.wrap (i + 1)))], todo := pt Try.prog fLaw10SpfTree [1, 1, 1, 1, 1, 1, 1, 0, 1, 0, 0] } m246 k247 Q))
 fun (k251 : Nat) =>
 (0 ≤ l_c ∧ 0 < l_c) ∧
 ∃ (b252 : Bool),
 ∃ (m253 : Mem),
 ∃ (k254 : Nat),
 (Wc Try.prog fKitSameint [Value.slice p228 k229 k230, Value.slice (some { block := k242, off := if l_c = 0 then k251 else k251 + 0, spot := some (k251 + 0) }) ((IntKind.i64.wrap (i + 1)).toNat - 0) (l_c - 0)] m231 k232 fun (v255 : Value) (m256 : Mem) (k257 : Nat) => v255 = Value.bool b252 ∧ m256 = m253 ∧ k257 = k254) ∧
 Later
 (Value.int IntKind.i64 (IntKind.i64.wrap (i + 1)) = Value.int IntKind.i64 (IntKind.i64.wrap (i + 1)) ∧
 k201 + 36 ≤ k232 ∧
 k201 + 36 ≤ k254 ∧ bif !b252 then Q (Value.bool false) m253 k254 else W Try.prog { fn := fLaw10SpfTree, nt := 216, slots := [(1, Value.int IntKind.i64 from'_1), (2, Value.int IntKind.i64 to_1), (3, Value.pointer (some { block := x, off := 0 })), (7, Value.bool ok), (8, Value.slice d_a d_l d_c), (9, Value.slice l_a l_l l_c), (10, Value.slice p_a p_l p_c), (11, Value.int IntKind.i64 x164), (12, Value.int IntKind.i64 (IntKind.i64.wrap (length + x180))), (13, Value.int IntKind.i64 (IntKind.i64.wrap (i + 1)))], todo := pt Try.prog fLaw10SpfTree [1, 1, 1, 1, 1, 1, 1, 0, 1, 0, 0] } m253 k254 Q))))
 else W Try.prog { fn := fLaw10SpfTree, nt := 216, slots := [(2, Value.int IntKind.i64 to_1), (7, Value.bool ok), (8, Value.slice d_a d_l d_c), (10, Value.slice p_a p_l p_c), (11, Value.int IntKind.i64 n'), (12, Value.int IntKind.i64 length)], todo := pt Try.prog fLaw10SpfTree [1, 1, 1, 1, 1, 1, 1, 1, 0] } m n Q) := by kernel_rfl

theorem xLaw10SpfTreek1 (m : Mem) (n : Nat) (Q : Value → Mem → Nat → Prop) (to_2 : Int) (ok_1 : Bool) (d_a_1 : Option Addr) (d_l_1 : Nat) (d_c_1 : Nat) (p_a_1 : Option Addr) (p_l_1 : Nat) (p_c_1 : Nat) (n'_1 : Int) (length_1 : Int) :
 xF (ev1 Try.prog xcfg 400) { fn := fLaw10SpfTree, nt := 216, slots := [(2, Value.int IntKind.i64 to_2), (7, Value.bool ok_1), (8, Value.slice d_a_1 d_l_1 d_c_1), (10, Value.slice p_a_1 p_l_1 p_c_1), (11, Value.int IntKind.i64 n'_1), (12, Value.int IntKind.i64 length_1)], todo := pt Try.prog fLaw10SpfTree [1, 1, 1, 1, 1, 1, 1, 1, 0] } m n Q =
 (bif ok_1 then
 elimA d_a_1 False fun (k0 k1 : Nat) (p2 : Option Nat) =>
 (0 ≤ to_2 ∧ to_2 < (↑d_l_1 : Int) ∧ liveAt m k0 = true ∧ (p2 ≠ none → 0 < d_c_1)) ∧
 ∃ (x3 : Int),
 rd m k0 (offOf k1 p2 + to_2.toNat * 1) = some (Value.int IntKind.i64 x3) ∧
 bif decide (x3 < 0) then elimA p_a_1 False fun (k4 k5 : Nat) (p6 : Option Nat) => (0 ≤ to_2 ∧ to_2 < (↑p_l_1 : Int) ∧ liveAt m k4 = true ∧ (p6 ≠ none → 0 < p_c_1)) ∧ ∃ (x7 : Int), rd m k4 (offOf k5 p6 + to_2.toNat * 1) = some (Value.int IntKind.i64 x7) ∧ bif x7 == -1 then Q (Value.bool true) m n else bif n'_1 == to_2 then elimA d_a_1 False fun (k8 k9 : Nat) (p10 : Option Nat) => (0 ≤ to_2 ∧ to_2 < (↑d_l_1 : Int) ∧ liveAt m k8 = true ∧ (p10 ≠ none → 0 < d_c_1)) ∧ ∃ (x11 : Int), rd m k8 (offOf k9 p10 + to_2.toNat * 1) = some (Value.int IntKind.i64 x11) ∧ Q (Value.bool (length_1 == x11)) m n else Q (Value.bool false) m n
 else bif n'_1 == to_2 then elimA d_a_1 False fun (k12 k13 : Nat) (p14 : Option Nat) => (0 ≤ to_2 ∧ to_2 < (↑d_l_1 : Int) ∧ liveAt m k12 = true ∧ (p14 ≠ none → 0 < d_c_1)) ∧ ∃ (x15 : Int), rd m k12 (offOf k13 p14 + to_2.toNat * 1) = some (Value.int IntKind.i64 x15) ∧ Q (Value.bool (length_1 == x15)) m n else Q (Value.bool false) m n
 else Q (Value.bool false) m n) := by kernel_rfl

/- 12 leafmesh/leafmeshlaw10.awake -/
theorem xLaw10awake (m : Mem) (n : Nat) (Q : Value → Mem → Nat → Prop) :
 Xc Try.prog xcfg 400 fLaw10awake [] m n Q =
 (Wc Try.prog fLaw10five [Value.slice none 0 0] m n fun (v0 : Value) (m1 : Mem) (k2 : Nat) =>
 ∃ (x3 : Int),
 ∃ (p4 : Option Addr),
 ∃ (k5 : Nat),
 ∃ (k6 : Nat),
 ∃ (p7 : Option Addr),
 ∃ (k8 : Nat),
 ∃ (k9 : Nat),
 v0 = Value.agg { toList := [Value.int IntKind.i64 x3, Value.slice p4 k5 k6, Value.slice p7 k8 k9] } ∧
 Later
 (memLet (Tr.set m1 k2 (AObj.cells none tLaw10Net 3 [Value.int IntKind.i64 0, Value.slice none 0 0, Value.slice none 0 0])) fun (m10 : Mem) =>
 ∃ (m11 : Mem),
 storeCs m10 k2 0 [Value.int IntKind.i64 x3, Value.slice p4 k5 k6, Value.slice p7 k8 k9] = some m11 ∧
 ∃ (x12 : Int),
 ∃ (p13 : Option Addr),
 ∃ (k14 : Nat),
 ∃ (k15 : Nat),
 ∃ (p16 : Option Addr),
 ∃ (k17 : Nat),
 ∃ (k18 : Nat),
 rds m11 k2 0 3 = some [Value.int IntKind.i64 x12, Value.slice p13 k14 k15, Value.slice p16 k17 k18] ∧
 Wc Try.prog fLaw10Netdist [Value.agg { toList := [Value.int IntKind.i64 x12, Value.slice p13 k14 k15, Value.slice p16 k17 k18] }, Value.int IntKind.i64 0] m11 (k2 + 1) fun (v19 : Value) (m20 : Mem) (k21 : Nat) =>
 ∃ (p22 : Option Addr),
 ∃ (k23 : Nat),
 ∃ (k24 : Nat),
 v19 = Value.slice p22 k23 k24 ∧
 Later
 (memLet (Tr.set m20 k21 (AObj.cells none tInt 1 [Value.int IntKind.i64 0, Value.int IntKind.i64 3, Value.int IntKind.i64 1, Value.int IntKind.i64 1, Value.int IntKind.i64 (-1)])) fun (m25 : Mem) =>
 Wc Try.prog fKitSameint [Value.slice p22 k23 k24, Value.slice (some { block := k21, off := 0 }) 5 5] m25 (k21 + 1) fun (v26 : Value) (m27 : Mem) (k28 : Nat) =>
 ∃ (b29 : Bool),
 v26 = Value.bool b29 ∧
 Later
 (bif b29 then
 ∃ (x30 : Int),
 ∃ (p31 : Option Addr),
 ∃ (k32 : Nat),
 ∃ (k33 : Nat),
 ∃ (p34 : Option Addr),
 ∃ (k35 : Nat),
 ∃ (k36 : Nat),
 rds m27 k2 0 3 = some [Value.int IntKind.i64 x30, Value.slice p31 k32 k33, Value.slice p34 k35 k36] ∧
 Wc Try.prog fLaw10Netnext [Value.agg { toList := [Value.int IntKind.i64 x30, Value.slice p31 k32 k33, Value.slice p34 k35 k36] }, Value.int IntKind.i64 1, Value.int IntKind.i64 0] m27 k28 fun (v37 : Value) (m38 : Mem) (k39 : Nat) =>
 ∃ (p40 : Option Addr),
 ∃ (k41 : Nat),
 ∃ (k42 : Nat),
 v37 = Value.slice p40 k41 k42 ∧
 Later
 (memLet (Tr.set m38 k39 (AObj.cells none tInt 1 [Value.int IntKind.i64 2, Value.int IntKind.i64 3, Value.int IntKind.i64 4])) fun (m43 : Mem) =>
 Wc Try.prog fKitSameint [Value.slice p40 k41 k42, Value.slice (some { block := k39, off := 0 }) 3 3] m43 (k39 + 1) fun (v44 : Value) (m45 : Mem) (k46 : Nat) =>
 ∃ (b47 : Bool),
 v44 = Value.bool b47 ∧
 Later
 (bif b47 then
 ∃ (x48 : Int),
 ∃ (p49 : Option Addr),
 ∃ (k50 : Nat),
 ∃ (k51 : Nat),
 ∃ (p52 : Option Addr),
 ∃ (k53 : Nat),
 ∃ (k54 : Nat),
 rds m45 k2 0 3 = some [Value.int IntKind.i64 x48, Value.slice p49 k50 k51, Value.slice p52 k53 k54] ∧
 Wc Try.prog fLaw10Netpaths [Value.agg { toList := [Value.int IntKind.i64 x48, Value.slice p49 k50 k51, Value.slice p52 k53 k54] }, Value.int IntKind.i64 0, Value.int IntKind.i64 1] m45 k46 fun (v55 : Value) (m56 : Mem) (k57 : Nat) =>
 ∃ (x58 : Int),
 v55 = Value.int IntKind.i64 x58 ∧
 Later
 (bif x58 == 3 then
 ∃ (x59 : Int),
 ∃ (p60 : Option Addr),
 ∃ (k61 : Nat),
 ∃ (k62 : Nat),
 ∃ (p63 : Option Addr),
 ∃ (k64 : Nat),
 ∃ (k65 : Nat),
 rds m56 k2 0 3 = some [Value.int IntKind.i64 x59, Value.slice p60 k61 k62, Value.slice p63 k64 k65] ∧
 Wc Try.prog fLaw10Netpath [Value.agg { toList := [Value.int IntKind.i64 x59, Value.slice p60 k61 k62, Value.slice p63 k64 k65] }, Value.int IntKind.i64 1, Value.int IntKind.i64 0] m56 k57 fun (v66 : Value) (m67 : Mem) (k68 : Nat) => ∃ (p69 : Option Addr), ∃ (k70 : Nat), ∃ (k71 : Nat), v66 = Value.slice p69 k70 k71 ∧ Later (memLet (Tr.set m67 k68 (AObj.cells none tInt 1 [Value.int IntKind.i64 2, Value.int IntKind.i64 0])) fun (m72 : Mem) => Wc Try.prog fKitSameint [Value.slice p69 k70 k71, Value.slice (some { block := k68, off := 0 }) 2 2] m72 (k68 + 1) fun (v73 : Value) (m74 : Mem) (k75 : Nat) => ∃ (b76 : Bool), v73 = Value.bool b76 ∧ Later (Q (Value.bool b76) m74 k75))
 else Q (Value.bool false) m56 k57)
 else Q (Value.bool false) m45 k46))
 else Q (Value.bool false) m27 k28)))) := by kernel_rfl

/- 13 leafmesh/leafmeshkit.Own[leafmesh/api.Link] -/
theorem xKitOwnapiLink (m : Mem) (n : Nat) (Q : Value → Mem → Nat → Prop) (l_a : Option Addr) (l_l : Nat) (l_c : Nat) :
 Xc Try.prog xcfg 400 fKitOwnapiLink [Value.slice l_a l_l l_c] m n Q =
 (memLet (Tr.set m n (AObj.cells none tApiLink 3 [])) fun (m0 : Mem) => ∃ (p1 : Option Addr), ∃ (k2 : Nat), ∃ (k3 : Nat), ∃ (m4 : Mem), ∃ (k5 : Nat), appendA Try.prog m0 (n + 1) tLapiLink tLapiLink (Value.slice (some { block := n, off := 0 }) 0 0) (Value.slice l_a l_l l_c) = Eff.val (Value.slice p1 k2 k3) m4 k5 ∧ Q (Value.slice p1 k2 k3) m4 k5) := by kernel_rfl

/- 14 leafmesh/leafmeshkit.Own[bool] -/
theorem xKitOwnbool (m : Mem) (n : Nat) (Q : Value → Mem → Nat → Prop) (l_a : Option Addr) (l_l : Nat) (l_c : Nat) :
 Xc Try.prog xcfg 400 fKitOwnbool [Value.slice l_a l_l l_c] m n Q =
 (memLet (Tr.set m n (AObj.cells none tBool 1 [])) fun (m0 : Mem) => ∃ (p1 : Option Addr), ∃ (k2 : Nat), ∃ (k3 : Nat), ∃ (m4 : Mem), ∃ (k5 : Nat), appendA Try.prog m0 (n + 1) tLbool tLbool (Value.slice (some { block := n, off := 0 }) 0 0) (Value.slice l_a l_l l_c) = Eff.val (Value.slice p1 k2 k3) m4 k5 ∧ Q (Value.slice p1 k2 k3) m4 k5) := by kernel_rfl

/- 15 leafmesh/leafmeshkit.Same[int] -/
theorem xKitSameint (m : Mem) (n : Nat) (Q : Value → Mem → Nat → Prop) (a_a : Option Addr) (a_l : Nat) (a_c : Nat) (b_a : Option Addr) (b_l : Nat) (b_c : Nat) :
 Xc Try.prog xcfg 400 fKitSameint [Value.slice a_a a_l a_c, Value.slice b_a b_l b_c] m n Q =
 (bif (↑a_l : Int) != (↑b_l : Int) then Q (Value.bool false) m n else W Try.prog { fn := fKitSameint, nt := 26, slots := [(0, Value.slice a_a a_l a_c), (1, Value.slice b_a b_l b_c), (5, Value.int IntKind.i64 0)], todo := pt Try.prog fKitSameint [1, 1, 0, 1, 0, 0] } m n Q) := by kernel_rfl

theorem xKitSameintk0 (m : Mem) (n : Nat) (Q : Value → Mem → Nat → Prop) (a_a : Option Addr) (a_l : Nat) (a_c : Nat) (b_a : Option Addr) (b_l : Nat) (b_c : Nat) (i : Int) :
 xF (evX Try.prog xcfg 400) { fn := fKitSameint, nt := 26, slots := [(0, Value.slice a_a a_l a_c), (1, Value.slice b_a b_l b_c), (5, Value.int IntKind.i64 i)], todo := pt Try.prog fKitSameint [1, 1, 0, 1, 0, 0] } m n Q =
 (bif decide (i < (↑a_l : Int)) then elimA a_a False fun (k0 k1 : Nat) (p2 : Option Nat) => (0 ≤ i ∧ i < (↑a_l : Int) ∧ liveAt m k0 = true ∧ (p2 ≠ none → 0 < a_c)) ∧ ∃ (x3 : Int), rd m k0 (offOf k1 p2 + i.toNat * 1) = some (Value.int IntKind.i64 x3) ∧ elimA b_a False fun (k4 k5 : Nat) (p6 : Option Nat) => (0 ≤ i ∧ i < (↑b_l : Int) ∧ liveAt m k4 = true ∧ (p6 ≠ none → 0 < b_c)) ∧ ∃ (x7 : Int), rd m k4 (offOf k5 p6 + i.toNat * 1) = some (Value.int IntKind.i64 x7) ∧ bif x3 != x7 then Q (Value.bool false) m (n + 9) else W Try.prog { fn := fKitSameint, nt := 26, slots := [(0, Value.slice a_a a_l a_c), (1, Value.slice b_a b_l b_c), (5, Value.int IntKind.i64 (IntKind.i64.wrap (i + 1)))], todo := pt Try.prog fKitSameint [1, 1, 0, 1, 0, 0] } m (n + 9) Q else Q (Value.bool true) m n) := by kernel_rfl

/- 16 leafmesh/spf.Dist -/
theorem xSpfDist (m : Mem) (n : Nat) (Q : Value → Mem → Nat → Prop) (nodes : Int) (links_a : Option Addr) (links_l : Nat) (links_c : Nat) (up_a : Option Addr) (up_l : Nat) (up_c : Nat) (from' : Int) :
 Xc Try.prog xcfg 400 fSpfDist [Value.int IntKind.i64 nodes, Value.slice links_a links_l links_c, Value.slice up_a up_l up_c, Value.int IntKind.i64 from'] m n Q =
 (memLet (Tr.set m n (AObj.cells none tInt 1 [Value.int IntKind.i64 from'])) fun (m0 : Mem) =>
 Wc Try.prog fSpfvalid [Value.int IntKind.i64 nodes, Value.slice links_a links_l links_c, Value.slice up_a up_l up_c, Value.slice (some { block := n, off := 0 }) 1 1] m0 (n + 1) fun (v1 : Value) (m2 : Mem) (k3 : Nat) =>
 ∃ (b4 : Bool),
 v1 = Value.bool b4 ∧
 Later
 (bif !b4 then ∃ (l5 : List Nat), ([] = List.map collD l5 ∧ List.Pairwise (fun (x1 x2 : Nat) => x1 ≠ x2) l5 ∧ ∀ (k6 : Nat), List.Mem k6 l5 → Tr.get m2 k6 = some (AObj.deferred (some []))) ∧ memLet (clrAll l5 m2) fun (m7 : Mem) => Q (Value.slice none 0 0) m7 k3
 else
 memLet (Tr.set m2 k3 (AObj.cells none tInt 1 [Value.int IntKind.i64 (-1)])) fun (m8 : Mem) =>
 Wc Try.prog fSlicesRepeatLintint [Value.slice (some { block := k3, off := 0 }) 1 1, Value.int IntKind.i64 nodes] m8 (k3 + 1) fun (v9 : Value) (m10 : Mem) (k11 : Nat) =>
 ∃ (p12 : Option Addr),
 ∃ (k13 : Nat),
 ∃ (k14 : Nat),
 v9 = Value.slice p12 k13 k14 ∧
 Later
 (memLet (Tr.set m10 k11 (AObj.cells none tLint 1 [Value.slice none 0 0])) fun (m15 : Mem) =>
 ∃ (m16 : Mem),
 storeCs m15 k11 0 [Value.slice p12 k13 k14] = some m16 ∧
 memLet (Tr.set m16 (k11 + 1) (AObj.cells none tSpffar 2 [Value.int IntKind.i64 from', Value.int IntKind.i64 0])) fun (m17 : Mem) => memLet (Tr.set m17 (k11 + 1 + 1) (AObj.cells none tSpfqueue 1 [Value.slice (some { block := k11 + 1, off := 0 }) 1 1])) fun (m18 : Mem) => memLet (Tr.set m18 (k11 + 1 + 1 + 1) (AObj.cells none tPspfqueue 1 [Value.pointer none])) fun (m19 : Mem) => ∃ (m20 : Mem), storeCs m19 (k11 + 1 + 1 + 1) 0 [Value.pointer (some { block := k11 + 1 + 1, off := 0 })] = some m20 ∧ W Try.prog { fn := fSpfDist, nt := 80, slots := [(1, Value.slice links_a links_l links_c), (2, Value.slice up_a up_l up_c), (9, Value.pointer (some { block := k11, off := 0 })), (10, Value.pointer (some { block := k11 + 1 + 1 + 1, off := 0 }))], todo := pt Try.prog fSpfDist [1, 1, 1, 1, 0, 0, 0] } m20 (k11 + 1 + 1 + 1 + 1) Q))) := by kernel_rfl

theorem xSpfDistk0 (m : Mem) (n : Nat) (Q : Value → Mem → Nat → Prop) (links_a : Option Addr) (links_l : Nat) (links_c : Nat) (up_a : Option Addr) (up_l : Nat) (up_c : Nat) (out' : Nat) (q : Nat) (ds : List Deferred) :
 xF (evX Try.prog xcfg 400) { fn := fSpfDist, nt := 80, slots := [(1, Value.slice links_a links_l links_c), (2, Value.slice up_a up_l up_c), (9, Value.pointer (some { block := out', off := 0 })), (10, Value.pointer (some { block := q, off := 0 }))], todo := pt Try.prog fSpfDist [1, 1, 1, 1, 0, 0, 0], defers := ds } m n Q =
 (∃ (p0 : Option Addr),
 rd m q 0 = some (Value.pointer p0) ∧
 elimP p0 False fun (k1 k2 : Nat) =>
 ∃ (p3 : Option Addr),
 ∃ (k4 : Nat),
 ∃ (k5 : Nat),
 rd m k1 k2 = some (Value.slice p3 k4 k5) ∧
 Wc Try.prog fSpfqueueLen [Value.slice p3 k4 k5] m n fun (v6 : Value) (m7 : Mem) (k8 : Nat) =>
 ∃ (x9 : Int),
 v6 = Value.int IntKind.i64 x9 ∧
 Later
 (bif decide (x9 > 0) then
 ∃ (p10 : Option Addr),
 rd m7 q 0 = some (Value.pointer p10) ∧
 Wc Try.prog fContainerheapPop [Value.iface tPspfqueue (Value.pointer p10)] m7 k8 fun (v11 : Value) (m12 : Mem) (k13 : Nat) =>
 ∃ (x14 : Int),
 ∃ (x15 : Int),
 v11 = Value.iface tSpffar (Value.agg { toList := [Value.int IntKind.i64 x14, Value.int IntKind.i64 x15] }) ∧
 Later
 (53 = 53 ∧
 ∃ (x16 : Int),
 ∃ (x17 : Int),
 Value.agg { toList := [Value.int IntKind.i64 x14, Value.int IntKind.i64 x15] } = Value.agg { toList := [Value.int IntKind.i64 x16, Value.int IntKind.i64 x17] } ∧
 memLet (Tr.set m12 k13 (AObj.cells none tSpffar 2 [Value.int IntKind.i64 0, Value.int IntKind.i64 0])) fun (m18 : Mem) =>
 ∃ (m19 : Mem),
 storeCs m18 k13 0 [Value.int IntKind.i64 x16, Value.int IntKind.i64 x17] = some m19 ∧
 ∃ (p20 : Option Addr),
 ∃ (k21 : Nat),
 ∃ (k22 : Nat),
 rd m19 out' 0 = some (Value.slice p20 k21 k22) ∧
 isC m19 k13 = true ∧
 ∃ (x23 : Int),
 rd m19 k13 0 = some (Value.int IntKind.i64 x23) ∧
 elimA p20 False fun (k24 k25 : Nat) (p26 : Option Nat) =>
 (0 ≤ x23 ∧ x23 < (↑k21 : Int) ∧ liveAt m19 k24 = true ∧ (p26 ≠ none → 0 < k22)) ∧
 ∃ (x27 : Int),
 rd m19 k24 (offOf k25 p26 + x23.toNat * 1) = some (Value.int IntKind.i64 x27) ∧
 bif decide (x27 ≥ 0) then W Try.prog { fn := fSpfDist, nt := 80, slots := [(1, Value.slice links_a links_l links_c), (2, Value.slice up_a up_l up_c), (9, Value.pointer (some { block := out', off := 0 })), (10, Value.pointer (some { block := q, off := 0 }))], todo := pt Try.prog fSpfDist [1, 1, 1, 1, 0, 0, 0], defers := ds } m19 (k13 + 1) Q
 else
 ∃ (p28 : Option Addr),
 ∃ (k29 : Nat),
 ∃ (k30 : Nat),
 rd m19 out' 0 = some (Value.slice p28 k29 k30) ∧
 isC m19 k13 = true ∧
 ∃ (x31 : Int),
 rd m19 k13 0 = some (Value.int IntKind.i64 x31) ∧
 isC m19 k13 = true ∧
 ∃ (x32 : Int),
 rd m19 k13 1 = some (Value.int IntKind.i64 x32) ∧
 elimA p28 False fun (k33 k34 : Nat) (p35 : Option Nat) =>
 (0 ≤ x31 ∧ x31 < (↑k29 : Int) ∧ liveAt m19 k33 = true ∧ (p35 ≠ none → 0 < k30)) ∧
 ∃ (m36 : Mem),
 storeCs m19 k33 (offOf k34 p35 + x31.toNat * 1) [Value.int IntKind.i64 x32] = some m36 ∧
 Wc Try.prog fSpffilterapiLink [Value.slice links_a links_l links_c, Value.slice up_a up_l up_c] m36 (k13 + 1) fun (v37 : Value) (m38 : Mem) (k39 : Nat) =>
 ∃ (y40 : FuncId),
 ∃ (l41 : List Value),
 ∃ (l42 : List Value),
 v37 = Value.func (Fn.func y40) { toList := l41 } { toList := l42 } ∧
 Later
 (memLet ((Tr.set m38 k39 (AObj.deferred (some []))).set (k39 + 1) (loopO fSpfDist 80 [(1, Value.slice links_a links_l links_c), (2, Value.slice up_a up_l up_c), (9, Value.pointer (some { block := out', off := 0 })), (10, Value.pointer (some { block := q, off := 0 })), (11, Value.pointer (some { block := k13, off := 0 })), (52, Value.func (Fn.func y40) { toList := l41 } { toList := l42 })] LoopState.ready none (pt Try.prog fSpfDist [1, 1, 1, 1, 0, 0, 0, 1, 0, 1, 1, 1, 1, 0]) k39)) fun (m43 : Mem) =>
 Wc Try.prog y40 (l41 ++ [Value.func (Fn.yield (k39 + 1)) { toList := [] } { toList := [] }] ++ l42) m43 (k39 + 2) fun (v44 : Value) (m45 : Mem) (k46 : Nat) =>
 ∃ (y47 : LoopState),
 ∃ (p48 : Option Code),
 Tr.get m45 (k39 + 1) = some (loopO fSpfDist 80 [(1, Value.slice links_a links_l links_c), (2, Value.slice up_a up_l up_c), (9, Value.pointer (some { block := out', off := 0 })), (10, Value.pointer (some { block := q, off := 0 })), (11, Value.pointer (some { block := k13, off := 0 })), (52, Value.func (Fn.func y40) { toList := l41 } { toList := l42 })] y47 p48 (pt Try.prog fSpfDist [1, 1, 1, 1, 0, 0, 0, 1, 0, 1, 1, 1, 1, 0]) k39) ∧
 isBusy y47 = false ∧
 Later
 (memLet (Tr.set m45 (k39 + 1) (loopO fSpfDist 80 [(1, Value.slice links_a links_l links_c), (2, Value.slice up_a up_l up_c), (9, Value.pointer (some { block := out', off := 0 })), (10, Value.pointer (some { block := q, off := 0 })), (11, Value.pointer (some { block := k13, off := 0 })), (52, Value.func (Fn.func y40) { toList := l41 } { toList := l42 })] LoopState.exhausted p48 (pt Try.prog fSpfDist [1, 1, 1, 1, 0, 0, 0, 1, 0, 1, 1, 1, 1, 0]) k39)) fun (m49 : Mem) =>
 elimJ p48 (W Try.prog { fn := fSpfDist, nt := 80, slots := [(1, Value.slice links_a links_l links_c), (2, Value.slice up_a up_l up_c), (9, Value.pointer (some { block := out', off := 0 })), (10, Value.pointer (some { block := q, off := 0 }))], todo := pt Try.prog fSpfDist [1, 1, 1, 1, 0, 0, 0], defers := { target := Target.collected k39, args := { toList := [] } } :: ds } m49 k46 Q) (∃ (l50 : List Nat), ({ target := Target.collected k39, args := { toList := [] } } :: ds = List.map collD l50 ∧ List.Pairwise (fun (x1 x2 : Nat) => x1 ≠ x2) l50 ∧ ∀ (k51 : Nat), List.Mem k51 l50 → Tr.get m49 k51 = some (AObj.deferred (some []))) ∧ False) fun (y53 : Code) => False)))
 else ∃ (p54 : Option Addr), ∃ (k55 : Nat), ∃ (k56 : Nat), rd m7 out' 0 = some (Value.slice p54 k55 k56) ∧ ∃ (l57 : List Nat), (ds = List.map collD l57 ∧ List.Pairwise (fun (x1 x2 : Nat) => x1 ≠ x2) l57 ∧ ∀ (k58 : Nat), List.Mem k58 l57 → Tr.get m7 k58 = some (AObj.deferred (some []))) ∧ memLet (clrAll l57 m7) fun (m59 : Mem) => Q (Value.slice p54 k55 k56) m59 k8)) := by kernel_rfl

theorem xSpfDistr1 (m : Mem) (n : Nat) (Q : Value → Mem → Nat → Prop) (links_a : Option Addr) (links_l : Nat) (links_c : Nat) (up_a : Option Addr) (up_l : Nat) (up_c : Nat) (out' : Nat) (q : Nat) (x : Nat) (t52 : Value) (Y : Nat) (t53v : Int) (t54v0 : Int) (t54v1 : Int) (t54v2 : Int) :
 xF (evX Try.prog xcfg 400) (roundF fSpfDist 80 [(1, Value.slice links_a links_l links_c), (2, Value.slice up_a up_l up_c), (9, Value.pointer (some { block := out', off := 0 })), (10, Value.pointer (some { block := q, off := 0 })), (11, Value.pointer (some { block := x, off := 0 })), (52, t52)] (pt Try.prog fSpfDist [1, 1, 1, 1, 0, 0, 0, 1, 0, 1, 1, 1, 1, 0]) [Value.int IntKind.i64 t53v, Value.agg { toList := [Value.int IntKind.i64 t54v0, Value.int IntKind.i64 t54v1, Value.int IntKind.i64 t54v2] }] Y) m n Q =
 (memLet (Tr.set m n (AObj.cells none tApiLink 3 [Value.int IntKind.i64 0, Value.int IntKind.i64 0, Value.int IntKind.i64 0])) fun (m0 : Mem) =>
 ∃ (m1 : Mem),
 storeCs m0 n 0 [Value.int IntKind.i64 t54v0, Value.int IntKind.i64 t54v1, Value.int IntKind.i64 t54v2] = some m1 ∧
 ∃ (y2 : AObj),
 Tr.get m1 Y = some y2 ∧
 lpReady y2 = true ∧
 memLet (Tr.set m1 Y (lpBusy y2)) fun (m3 : Mem) =>
 ∃ (x4 : Int),
 ∃ (x5 : Int),
 ∃ (x6 : Int),
 rds m3 n 0 3 = some [Value.int IntKind.i64 x4, Value.int IntKind.i64 x5, Value.int IntKind.i64 x6] ∧
 isC m3 x = true ∧
 ∃ (x7 : Int),
 rd m3 x 0 = some (Value.int IntKind.i64 x7) ∧
 Wc Try.prog fSpfother [Value.agg { toList := [Value.int IntKind.i64 x4, Value.int IntKind.i64 x5, Value.int IntKind.i64 x6] }, Value.int IntKind.i64 x7] m3 (n + 1) fun (v8 : Value) (m9 : Mem) (k10 : Nat) =>
 ∃ (x11 : Int),
 v8 = Value.int IntKind.i64 x11 ∧
 Later
 (bif decide (x11 ≥ 0) then
 ∃ (p12 : Option Addr),
 ∃ (k13 : Nat),
 ∃ (k14 : Nat),
 rd m9 out' 0 = some (Value.slice p12 k13 k14) ∧
 elimA p12 False fun (k15 k16 : Nat) (p17 : Option Nat) =>
 (0 ≤ x11 ∧ x11 < (↑k13 : Int) ∧ liveAt m9 k15 = true ∧ (p17 ≠ none → 0 < k14)) ∧
 ∃ (x18 : Int),
 rd m9 k15 (offOf k16 p17 + x11.toNat * 1) = some (Value.int IntKind.i64 x18) ∧
 bif decide (x18 < 0) then ∃ (p19 : Option Addr), rd m9 q 0 = some (Value.pointer p19) ∧ isC m9 x = true ∧ ∃ (x20 : Int), rd m9 x 1 = some (Value.int IntKind.i64 x20) ∧ isC m9 n = true ∧ ∃ (x21 : Int), rd m9 n 2 = some (Value.int IntKind.i64 x21) ∧ Wc Try.prog fContainerheapPush [Value.iface tPspfqueue (Value.pointer p19), Value.iface tSpffar (Value.agg { toList := [Value.int IntKind.i64 x11, Value.int IntKind.i64 (IntKind.i64.wrap (x20 + x21))] })] m9 k10 fun (v22 : Value) (m23 : Mem) (k24 : Nat) => v22 = Value.tuple { toList := [] } ∧ Later (∃ (y25 : AObj), Tr.get m23 Y = some y25 ∧ isLp y25 = true ∧ memLet (Tr.set m23 Y (lpSet y25 LoopState.ready none)) fun (m26 : Mem) => Q (Value.bool true) m26 k24)
 else ∃ (y27 : AObj), Tr.get m9 Y = some y27 ∧ isLp y27 = true ∧ memLet (Tr.set m9 Y (lpSet y27 LoopState.ready none)) fun (m28 : Mem) => Q (Value.bool true) m28 k10
 else ∃ (y29 : AObj), Tr.get m9 Y = some y29 ∧ isLp y29 = true ∧ memLet (Tr.set m9 Y (lpSet y29 LoopState.ready none)) fun (m30 : Mem) => Q (Value.bool true) m30 k10)) := by kernel_rfl

/- 17 leafmesh/leafmeshref10.Dist -/
theorem xRef10Dist (m : Mem) (n : Nat) (Q : Value → Mem → Nat → Prop) (nodes : Int) (links_a : Option Addr) (links_l : Nat) (links_c : Nat) (up_a : Option Addr) (up_l : Nat) (up_c : Nat) (from' : Int) :
 Xc Try.prog xcfg 400 fRef10Dist [Value.int IntKind.i64 nodes, Value.slice links_a links_l links_c, Value.slice up_a up_l up_c, Value.int IntKind.i64 from'] m n Q =
 (Wc Try.prog fRef10Valid [Value.int IntKind.i64 nodes, Value.slice links_a links_l links_c, Value.slice up_a up_l up_c, Value.int IntKind.i64 from'] m n fun (v0 : Value) (m1 : Mem) (k2 : Nat) => ∃ (b3 : Bool), v0 = Value.bool b3 ∧ Later (bif !b3 then Q (Value.slice none 0 0) m1 k2 else (0 ≤ nodes ∧ nodes ≤ nodes ∧ 9 * nodes ≤ 281474976710656) ∧ memLet (Tr.set m1 k2 (AObj.cells none tInt 1 (List.replicate nodes.toNat [Value.int IntKind.i64 0]).flatten)) fun (m4 : Mem) => W Try.prog { fn := fRef10Dist, nt := 134, slots := [(0, Value.int IntKind.i64 nodes), (1, Value.slice links_a links_l links_c), (2, Value.slice up_a up_l up_c), (3, Value.int IntKind.i64 from'), (9, Value.slice (some { block := k2, off := 0 }) nodes.toNat nodes.toNat), (10, Value.int IntKind.i64 0)], todo := pt Try.prog fRef10Dist [1, 1, 1, 0, 1, 0, 0] } m4 (k2 + 1) Q)) := by kernel_rfl

theorem xRef10Distk0 (m : Mem) (n : Nat) (Q : Value → Mem → Nat → Prop) (nodes : Int) (links_a : Option Addr) (links_l : Nat) (links_c : Nat) (up_a : Option Addr) (up_l : Nat) (up_c : Nat) (from' : Int) (d_a : Option Addr) (d_l : Nat) (d_c : Nat) (n' : Int) :
 xF (evX Try.prog xcfg 400) { fn := fRef10Dist, nt := 134, slots := [(0, Value.int IntKind.i64 nodes), (1, Value.slice links_a links_l links_c), (2, Value.slice up_a up_l up_c), (3, Value.int IntKind.i64 from'), (9, Value.slice d_a d_l d_c), (10, Value.int IntKind.i64 n')], todo := pt Try.prog fRef10Dist [1, 1, 1, 0, 1, 0, 0] } m n Q =
 (bif decide (n' < nodes) then elimA d_a False fun (k0 k1 : Nat) (p2 : Option Nat) => (0 ≤ n' ∧ n' < (↑d_l : Int) ∧ liveAt m k0 = true ∧ (p2 ≠ none → 0 < d_c)) ∧ ∃ (m3 : Mem), storeCs m k0 (offOf k1 p2 + n'.toNat * 1) [Value.int IntKind.i64 (-1)] = some m3 ∧ W Try.prog { fn := fRef10Dist, nt := 134, slots := [(0, Value.int IntKind.i64 nodes), (1, Value.slice links_a links_l links_c), (2, Value.slice up_a up_l up_c), (3, Value.int IntKind.i64 from'), (9, Value.slice d_a d_l d_c), (10, Value.int IntKind.i64 (IntKind.i64.wrap (n' + 1)))], todo := pt Try.prog fRef10Dist [1, 1, 1, 0, 1, 0, 0] } m3 n Q
 else elimA d_a False fun (k4 k5 : Nat) (p6 : Option Nat) => (0 ≤ from' ∧ from' < (↑d_l : Int) ∧ liveAt m k4 = true ∧ (p6 ≠ none → 0 < d_c)) ∧ ∃ (m7 : Mem), storeCs m k4 (offOf k5 p6 + from'.toNat * 1) [Value.int IntKind.i64 0] = some m7 ∧ W Try.prog { fn := fRef10Dist, nt := 134, slots := [(1, Value.slice links_a links_l links_c), (2, Value.slice up_a up_l up_c), (9, Value.slice d_a d_l d_c), (11, Value.bool true)], todo := pt Try.prog fRef10Dist [1, 1, 1, 1, 1, 0, 1, 0, 0] } m7 n Q) := by kernel_rfl

theorem xRef10Distk1 (m : Mem) (n : Nat) (Q : Value → Mem → Nat → Prop) (links_a : Option Addr) (links_l : Nat) (links_c : Nat) (up_a : Option Addr) (up_l : Nat) (up_c : Nat) (d_a : Option Addr) (d_l : Nat) (d_c : Nat) (more : Bool) :
 xF (evX Try.prog xcfg 400) { fn := fRef10Dist, nt := 134, slots := [(1, Value.slice links_a links_l links_c), (2, Value.slice up_a up_l up_c), (9, Value.slice d_a d_l d_c), (11, Value.bool more)], todo := pt Try.prog fRef10Dist [1, 1, 1, 1, 1, 0, 1, 0, 0] } m n Q =
 (bif more then W Try.prog { fn := fRef10Dist, nt := 134, slots := [(1, Value.slice links_a links_l links_c), (2, Value.slice up_a up_l up_c), (9, Value.slice d_a d_l d_c), (11, Value.bool false), (12, Value.int IntKind.i64 0)], todo := pt Try.prog fRef10Dist [1, 1, 1, 1, 1, 0, 1, 0, 0, 1, 0, 1, 1, 0, 0] } m n Q else Q (Value.slice d_a d_l d_c) m n) := by kernel_rfl

theorem xRef10Distk2 (m : Mem) (n : Nat) (Q : Value → Mem → Nat → Prop) (links_a : Option Addr) (links_l : Nat) (links_c : Nat) (up_a : Option Addr) (up_l : Nat) (up_c : Nat) (d_a : Option Addr) (d_l : Nat) (d_c : Nat) (more_1 : Bool) (i : Int) :
 xF (evX Try.prog xcfg 400) { fn := fRef10Dist, nt := 134, slots := [(1, Value.slice links_a links_l links_c), (2, Value.slice up_a up_l up_c), (9, Value.slice d_a d_l d_c), (11, Value.bool more_1), (12, Value.int IntKind.i64 i)], todo := pt Try.prog fRef10Dist [1, 1, 1, 1, 1, 0, 1, 0, 0, 1, 0, 1, 1, 0, 0] } m n Q =
 (bif decide (i < (↑links_l : Int)) then
 elimA links_a False fun (k0 k1 : Nat) (p2 : Option Nat) =>
 (0 ≤ i ∧ i < (↑links_l : Int) ∧ liveAt m k0 = true ∧ (p2 ≠ none → 0 < links_c)) ∧
 ∃ (x3 : Int),
 ∃ (x4 : Int),
 ∃ (x5 : Int),
 rds m k0 (offOf k1 p2 + i.toNat * 3) 3 = some [Value.int IntKind.i64 x3, Value.int IntKind.i64 x4, Value.int IntKind.i64 x5] ∧
 memLet (Tr.set m n (AObj.cells none tApiLink 3 [Value.int IntKind.i64 0, Value.int IntKind.i64 0, Value.int IntKind.i64 0])) fun (m6 : Mem) =>
 ∃ (m7 : Mem),
 storeCs m6 n 0 [Value.int IntKind.i64 x3, Value.int IntKind.i64 x4, Value.int IntKind.i64 x5] = some m7 ∧
 elimA up_a False fun (k8 k9 : Nat) (p10 : Option Nat) =>
 (0 ≤ i ∧ i < (↑up_l : Int) ∧ liveAt m7 k8 = true ∧ (p10 ≠ none → 0 < up_c)) ∧
 ∃ (b11 : Bool),
 rd m7 k8 (offOf k9 p10 + i.toNat * 1) = some (Value.bool b11) ∧
 bif !b11 then W Try.prog { fn := fRef10Dist, nt := 134, slots := [(1, Value.slice links_a links_l links_c), (2, Value.slice up_a up_l up_c), (9, Value.slice d_a d_l d_c), (11, Value.bool more_1), (12, Value.int IntKind.i64 (IntKind.i64.wrap (i + 1)))], todo := pt Try.prog fRef10Dist [1, 1, 1, 1, 1, 0, 1, 0, 0, 1, 0, 1, 1, 0, 0] } m7 (n + 1) Q
 else
 isC m7 n = true ∧
 ∃ (x12 : Int),
 rd m7 n 0 = some (Value.int IntKind.i64 x12) ∧
 elimA d_a False fun (k13 k14 : Nat) (p15 : Option Nat) =>
 (0 ≤ x12 ∧ x12 < (↑d_l : Int) ∧ liveAt m7 k13 = true ∧ (p15 ≠ none → 0 < d_c)) ∧
 ∃ (x16 : Int),
 rd m7 k13 (offOf k14 p15 + x12.toNat * 1) = some (Value.int IntKind.i64 x16) ∧
 bif decide (x16 ≥ 0) then
 isC m7 n = true ∧
 ∃ (x17 : Int),
 rd m7 n 1 = some (Value.int IntKind.i64 x17) ∧
 elimA d_a False fun (k18 k19 : Nat) (p20 : Option Nat) =>
 (0 ≤ x17 ∧ x17 < (↑d_l : Int) ∧ liveAt m7 k18 = true ∧ (p20 ≠ none → 0 < d_c)) ∧
 ∃ (x21 : Int),
 rd m7 k18 (offOf k19 p20 + x17.toNat * 1) = some (Value.int IntKind.i64 x21) ∧
 bif decide (x21 < 0) then
 isC m7 n = true ∧
 ∃ (x22 : Int),
 rd m7 n 1 = some (Value.int IntKind.i64 x22) ∧
 isC m7 n = true ∧
 ∃ (x23 : Int),
 rd m7 n 0 = some (Value.int IntKind.i64 x23) ∧
 elimA d_a False fun (k24 k25 : Nat) (p26 : Option Nat) =>
 (0 ≤ x23 ∧ x23 < (↑d_l : Int) ∧ liveAt m7 k24 = true ∧ (p26 ≠ none → 0 < d_c)) ∧
 ∃ (x27 : Int),
 rd m7 k24 (offOf k25 p26 + x23.toNat * 1) = some (Value.int IntKind.i64 x27) ∧
 isC m7 n = true ∧ ∃ (x28 : Int), rd m7 n 2 = some (Value.int IntKind.i64 x28) ∧ elimA d_a False fun (k29 k30 : Nat) (p31 : Option Nat) => (0 ≤ x22 ∧ x22 < (↑d_l : Int) ∧ liveAt m7 k29 = true ∧ (p31 ≠ none → 0 < d_c)) ∧ ∃ (m32 : Mem), storeCs m7 k29 (offOf k30 p31 + x22.toNat * 1) [Value.int IntKind.i64 (IntKind.i64.wrap (x27 + x28))] = some m32 ∧ n + 1 + 30 + 13 ≤ n + 1 + 30 + 13 ∧ W Try.prog { fn := fRef10Dist, nt := 134, slots := [(1, Value.slice links_a links_l links_c), (2, Value.slice up_a up_l up_c), (9, Value.slice d_a d_l d_c), (11, Value.bool true), (12, Value.int IntKind.i64 i), (13, Value.pointer (some { block := n, off := 0 }))], todo := pt Try.prog fRef10Dist [1, 1, 1, 1, 1, 0, 1, 0, 0, 1, 0, 1, 1, 0, 0, 1, 0, 0, 1, 1, 1, 0] } m32 (n + 1 + 30 + 13) Q
 else
 isC m7 n = true ∧
 ∃ (x33 : Int),
 rd m7 n 1 = some (Value.int IntKind.i64 x33) ∧
 elimA d_a False fun (k34 k35 : Nat) (p36 : Option Nat) =>
 (0 ≤ x33 ∧ x33 < (↑d_l : Int) ∧ liveAt m7 k34 = true ∧ (p36 ≠ none → 0 < d_c)) ∧
 ∃ (x37 : Int),
 rd m7 k34 (offOf k35 p36 + x33.toNat * 1) = some (Value.int IntKind.i64 x37) ∧
 isC m7 n = true ∧
 ∃ (x38 : Int),
 rd m7 n 0 = some (Value.int IntKind.i64 x38) ∧
 elimA d_a False fun (k39 k40 : Nat) (p41 : Option Nat) =>
 (0 ≤ x38 ∧ x38 < (↑d_l : Int) ∧ liveAt m7 k39 = true ∧ (p41 ≠ none → 0 < d_c)) ∧
 ∃ (x42 : Int),
 rd m7 k39 (offOf k40 p41 + x38.toNat * 1) = some (Value.int IntKind.i64 x42) ∧
 isC m7 n = true ∧
 ∃ (x43 : Int),
 rd m7 n 2 = some (Value.int IntKind.i64 x43) ∧
 bif decide (x37 > IntKind.i64.wrap (x42 + x43)) then
 isC m7 n = true ∧
 ∃ (x44 : Int),
 rd m7 n 1 = some (Value.int IntKind.i64 x44) ∧
 isC m7 n = true ∧
 ∃ (x45 : Int),
 rd m7 n 0 = some (Value.int IntKind.i64 x45) ∧
 elimA d_a False fun (k46 k47 : Nat) (p48 : Option Nat) =>
 (0 ≤ x45 ∧ x45 < (↑d_l : Int) ∧ liveAt m7 k46 = true ∧ (p48 ≠ none → 0 < d_c)) ∧
 ∃ (x49 : Int),
 rd m7 k46 (offOf k47 p48 + x45.toNat * 1) = some (Value.int IntKind.i64 x49) ∧
 isC m7 n = true ∧ ∃ (x50 : Int), rd m7 n 2 = some (Value.int IntKind.i64 x50) ∧ elimA d_a False fun (k51 k52 : Nat) (p53 : Option Nat) => (0 ≤ x44 ∧ x44 < (↑d_l : Int) ∧ liveAt m7 k51 = true ∧ (p53 ≠ none → 0 < d_c)) ∧ ∃ (m54 : Mem), storeCs m7 k51 (offOf k52 p53 + x44.toNat * 1) [Value.int IntKind.i64 (IntKind.i64.wrap (x49 + x50))] = some m54 ∧ n + 1 + 30 + 13 ≤ n + 1 + 30 + 13 ∧ W Try.prog { fn := fRef10Dist, nt := 134, slots := [(1, Value.slice links_a links_l links_c), (2, Value.slice up_a up_l up_c), (9, Value.slice d_a d_l d_c), (11, Value.bool true), (12, Value.int IntKind.i64 i), (13, Value.pointer (some { block := n, off := 0 }))], todo := pt Try.prog fRef10Dist [1, 1, 1, 1, 1, 0, 1, 0, 0, 1, 0, 1, 1, 0, 0, 1, 0, 0, 1, 1, 1, 0] } m54 (n + 1 + 30 + 13) Q
 else W Try.prog { fn := fRef10Dist, nt := 134, slots := [(1, Value.slice links_a links_l links_c), (2, Value.slice up_a up_l up_c), (9, Value.slice d_a d_l d_c), (11, Value.bool more_1), (12, Value.int IntKind.i64 i), (13, Value.pointer (some { block := n, off := 0 }))], todo := pt Try.prog fRef10Dist [1, 1, 1, 1, 1, 0, 1, 0, 0, 1, 0, 1, 1, 0, 0, 1, 0, 0, 1, 1, 1, 0] } m7 (n + 1 + 30) Q
 else W Try.prog { fn := fRef10Dist, nt := 134, slots := [(1, Value.slice links_a links_l links_c), (2, Value.slice up_a up_l up_c), (9, Value.slice d_a d_l d_c), (11, Value.bool more_1), (12, Value.int IntKind.i64 i), (13, Value.pointer (some { block := n, off := 0 }))], todo := pt Try.prog fRef10Dist [1, 1, 1, 1, 1, 0, 1, 0, 0, 1, 0, 1, 1, 0, 0, 1, 0, 0, 1, 1, 1, 0] } m7 (n + 1 + 30) Q
 else W Try.prog { fn := fRef10Dist, nt := 134, slots := [(1, Value.slice links_a links_l links_c), (2, Value.slice up_a up_l up_c), (9, Value.slice d_a d_l d_c), (11, Value.bool more_1)], todo := pt Try.prog fRef10Dist [1, 1, 1, 1, 1, 0, 1, 0, 0] } m n Q) := by kernel_rfl

theorem xRef10Distk3 (m : Mem) (n : Nat) (Q : Value → Mem → Nat → Prop) (links_a : Option Addr) (links_l : Nat) (links_c : Nat) (up_a : Option Addr) (up_l : Nat) (up_c : Nat) (d_a_1 : Option Addr) (d_l_1 : Nat) (d_c_1 : Nat) (more_2 : Bool) (i_1 : Int) (x : Option Addr) :
 xF (ev1 Try.prog xcfg 400) { fn := fRef10Dist, nt := 134, slots := [(1, Value.slice links_a links_l links_c), (2, Value.slice up_a up_l up_c), (9, Value.slice d_a_1 d_l_1 d_c_1), (11, Value.bool more_2), (12, Value.int IntKind.i64 i_1), (13, Value.pointer x)], todo := pt Try.prog fRef10Dist [1, 1, 1, 1, 1, 0, 1, 0, 0, 1, 0, 1, 1, 0, 0, 1, 0, 0, 1, 1, 1, 0] } m n Q =
 (elimP x False fun (k0 k1 : Nat) =>
 isC m k0 = true ∧
 ∃ (x2 : Int),
 rd m k0 (k1 + 1) = some (Value.int IntKind.i64 x2) ∧
 elimA d_a_1 False fun (k3 k4 : Nat) (p5 : Option Nat) =>
 (0 ≤ x2 ∧ x2 < (↑d_l_1 : Int) ∧ liveAt m k3 = true ∧ (p5 ≠ none → 0 < d_c_1)) ∧
 ∃ (x6 : Int),
 rd m k3 (offOf k4 p5 + x2.toNat * 1) = some (Value.int IntKind.i64 x6) ∧
 bif decide (x6 ≥ 0) then
 elimP x False fun (k7 k8 : Nat) =>
 isC m k7 = true ∧
 ∃ (x9 : Int),
 rd m k7 (k8 + 0) = some (Value.int IntKind.i64 x9) ∧
 elimA d_a_1 False fun (k10 k11 : Nat) (p12 : Option Nat) =>
 (0 ≤ x9 ∧ x9 < (↑d_l_1 : Int) ∧ liveAt m k10 = true ∧ (p12 ≠ none → 0 < d_c_1)) ∧
 ∃ (x13 : Int),
 rd m k10 (offOf k11 p12 + x9.toNat * 1) = some (Value.int IntKind.i64 x13) ∧
 bif decide (x13 < 0) then
 elimP x False fun (k14 k15 : Nat) =>
 isC m k14 = true ∧
 ∃ (x16 : Int),
 rd m k14 (k15 + 0) = some (Value.int IntKind.i64 x16) ∧
 elimP x False fun (k17 k18 : Nat) =>
 isC m k17 = true ∧
 ∃ (x19 : Int),
 rd m k17 (k18 + 1) = some (Value.int IntKind.i64 x19) ∧
 elimA d_a_1 False fun (k20 k21 : Nat) (p22 : Option Nat) =>
 (0 ≤ x19 ∧ x19 < (↑d_l_1 : Int) ∧ liveAt m k20 = true ∧ (p22 ≠ none → 0 < d_c_1)) ∧
 ∃ (x23 : Int),
 rd m k20 (offOf k21 p22 + x19.toNat * 1) = some (Value.int IntKind.i64 x23) ∧
 elimP x False fun (k24 k25 : Nat) => isC m k24 = true ∧ ∃ (x26 : Int), rd m k24 (k25 + 2) = some (Value.int IntKind.i64 x26) ∧ elimA d_a_1 False fun (k27 k28 : Nat) (p29 : Option Nat) => (0 ≤ x16 ∧ x16 < (↑d_l_1 : Int) ∧ liveAt m k27 = true ∧ (p29 ≠ none → 0 < d_c_1)) ∧ ∃ (m30 : Mem), storeCs m k27 (offOf k28 p29 + x16.toNat * 1) [Value.int IntKind.i64 (IntKind.i64.wrap (x23 + x26))] = some m30 ∧ n + 30 + 13 ≤ n + 30 + 13 ∧ W Try.prog { fn := fRef10Dist, nt := 134, slots := [(1, Value.slice links_a links_l links_c), (2, Value.slice up_a up_l up_c), (9, Value.slice d_a_1 d_l_1 d_c_1), (11, Value.bool true), (12, Value.int IntKind.i64 (IntKind.i64.wrap (i_1 + 1)))], todo := pt Try.prog fRef10Dist [1, 1, 1, 1, 1, 0, 1, 0, 0, 1, 0, 1, 1, 0, 0] } m30 (n + 30 + 13) Q
 else
 elimP x False fun (k31 k32 : Nat) =>
 isC m k31 = true ∧
 ∃ (x33 : Int),
 rd m k31 (k32 + 0) = some (Value.int IntKind.i64 x33) ∧
 elimA d_a_1 False fun (k34 k35 : Nat) (p36 : Option Nat) =>
 (0 ≤ x33 ∧ x33 < (↑d_l_1 : Int) ∧ liveAt m k34 = true ∧ (p36 ≠ none → 0 < d_c_1)) ∧
 ∃ (x37 : Int),
 rd m k34 (offOf k35 p36 + x33.toNat * 1) = some (Value.int IntKind.i64 x37) ∧
 elimP x False fun (k38 k39 : Nat) =>
 isC m k38 = true ∧
 ∃ (x40 : Int),
 rd m k38 (k39 + 1) = some (Value.int IntKind.i64 x40) ∧
 elimA d_a_1 False fun (k41 k42 : Nat) (p43 : Option Nat) =>
 (0 ≤ x40 ∧ x40 < (↑d_l_1 : Int) ∧ liveAt m k41 = true ∧ (p43 ≠ none → 0 < d_c_1)) ∧
 ∃ (x44 : Int),
 rd m k41 (offOf k42 p43 + x40.toNat * 1) = some (Value.int IntKind.i64 x44) ∧
 elimP x False fun (k45 k46 : Nat) =>
 isC m k45 = true ∧
 ∃ (x47 : Int),
 rd m k45 (k46 + 2) = some (Value.int IntKind.i64 x47) ∧
 bif decide (x37 > IntKind.i64.wrap (x44 + x47)) then
 elimP x False fun (k48 k49 : Nat) =>
 isC m k48 = true ∧
 ∃ (x50 : Int),
 rd m k48 (k49 + 0) = some (Value.int IntKind.i64 x50) ∧
 elimP x False fun (k51 k52 : Nat) =>
 isC m k51 = true ∧
 ∃ (x53 : Int),
 rd m k51 (k52 + 1) = some (Value.int IntKind.i64 x53) ∧
 elimA d_a_1 False fun (k54 k55 : Nat) (p56 : Option Nat) =>
 (0 ≤ x53 ∧ x53 < (↑d_l_1 : Int) ∧ liveAt m k54 = true ∧ (p56 ≠ none → 0 < d_c_1)) ∧
 ∃ (x57 : Int),
 rd m k54 (offOf k55 p56 + x53.toNat * 1) = some (Value.int IntKind.i64 x57) ∧
 elimP x False fun (k58 k59 : Nat) => isC m k58 = true ∧ ∃ (x60 : Int), rd m k58 (k59 + 2) = some (Value.int IntKind.i64 x60) ∧ elimA d_a_1 False fun (k61 k62 : Nat) (p63 : Option Nat) => (0 ≤ x50 ∧ x50 < (↑d_l_1 : Int) ∧ liveAt m k61 = true ∧ (p63 ≠ none → 0 < d_c_1)) ∧ ∃ (m64 : Mem), storeCs m k61 (offOf k62 p63 + x50.toNat * 1) [Value.int IntKind.i64 (IntKind.i64.wrap (x57 + x60))] = some m64 ∧ n + 30 + 13 ≤ n + 30 + 13 ∧ W Try.prog { fn := fRef10Dist, nt := 134, slots := [(1, Value.slice links_a links_l links_c), (2, Value.slice up_a up_l up_c), (9, Value.slice d_a_1 d_l_1 d_c_1), (11, Value.bool true), (12, Value.int IntKind.i64 (IntKind.i64.wrap (i_1 + 1)))], todo := pt Try.prog fRef10Dist [1, 1, 1, 1, 1, 0, 1, 0, 0, 1, 0, 1, 1, 0, 0] } m64 (n + 30 + 13) Q
 else W Try.prog { fn := fRef10Dist, nt := 134, slots := [(1, Value.slice links_a links_l links_c), (2, Value.slice up_a up_l up_c), (9, Value.slice d_a_1 d_l_1 d_c_1), (11, Value.bool more_2), (12, Value.int IntKind.i64 (IntKind.i64.wrap (i_1 + 1)))], todo := pt Try.prog fRef10Dist [1, 1, 1, 1, 1, 0, 1, 0, 0, 1, 0, 1, 1, 0, 0] } m (n + 30) Q
 else W Try.prog { fn := fRef10Dist, nt := 134, slots := [(1, Value.slice links_a links_l links_c), (2, Value.slice up_a up_l up_c), (9, Value.slice d_a_1 d_l_1 d_c_1), (11, Value.bool more_2), (12, Value.int IntKind.i64 (IntKind.i64.wrap (i_1 + 1)))], todo := pt Try.prog fRef10Dist [1, 1, 1, 1, 1, 0, 1, 0, 0, 1, 0, 1, 1, 0, 0] } m (n + 30) Q) := by kernel_rfl

/- 18 leafmesh/spf.Parents -/
theorem xSpfParents (m : Mem) (n : Nat) (Q : Value → Mem → Nat → Prop) (nodes : Int) (links_a : Option Addr) (links_l : Nat) (links_c : Nat) (up_a : Option Addr) (up_l : Nat) (up_c : Nat) (from' : Int) :
 Xc Try.prog xcfg 400 fSpfParents [Value.int IntKind.i64 nodes, Value.slice links_a links_l links_c, Value.slice up_a up_l up_c, Value.int IntKind.i64 from'] m n Q =
 (memLet (Tr.set m n (AObj.cells none tInt 1 [Value.int IntKind.i64 from'])) fun (m0 : Mem) =>
 Wc Try.prog fSpfvalid [Value.int IntKind.i64 nodes, Value.slice links_a links_l links_c, Value.slice up_a up_l up_c, Value.slice (some { block := n, off := 0 }) 1 1] m0 (n + 1) fun (v1 : Value) (m2 : Mem) (k3 : Nat) =>
 ∃ (b4 : Bool), v1 = Value.bool b4 ∧ Later (bif !b4 then Q (Value.slice none 0 0) m2 k3 else memLet (Tr.set m2 k3 (AObj.cells none tInt 1 [Value.int IntKind.i64 (-1)])) fun (m5 : Mem) => Wc Try.prog fSlicesRepeatLintint [Value.slice (some { block := k3, off := 0 }) 1 1, Value.int IntKind.i64 nodes] m5 (k3 + 1) fun (v6 : Value) (m7 : Mem) (k8 : Nat) => ∃ (p9 : Option Addr), ∃ (k10 : Nat), ∃ (k11 : Nat), v6 = Value.slice p9 k10 k11 ∧ Later (W Try.prog { fn := fSpfParents, nt := 43, slots := [(0, Value.int IntKind.i64 nodes), (1, Value.slice links_a links_l links_c), (2, Value.slice up_a up_l up_c), (3, Value.int IntKind.i64 from'), (9, Value.slice p9 k10 k11), (22, Value.int IntKind.i64 nodes), (23, Value.int IntKind.i64 0)], todo := pt Try.prog fSpfParents [1, 1, 1, 0, 1, 0, 0] } m7 k8 Q))) := by kernel_rfl

theorem xSpfParentsk0 (m : Mem) (n : Nat) (Q : Value → Mem → Nat → Prop) (nodes : Int) (links_a : Option Addr) (links_l : Nat) (links_c : Nat) (up_a : Option Addr) (up_l : Nat) (up_c : Nat) (from' : Int) (out'_a : Option Addr) (out'_l : Nat) (out'_c : Nat) (t23 : Int) :
 xF (evX Try.prog xcfg 400) { fn := fSpfParents, nt := 43, slots := [(0, Value.int IntKind.i64 nodes), (1, Value.slice links_a links_l links_c), (2, Value.slice up_a up_l up_c), (3, Value.int IntKind.i64 from'), (9, Value.slice out'_a out'_l out'_c), (22, Value.int IntKind.i64 nodes), (23, Value.int IntKind.i64 t23)], todo := pt Try.prog fSpfParents [1, 1, 1, 0, 1, 0, 0] } m n Q =
 (bif decide (t23 < nodes) then
 Wc Try.prog fSpfNext [Value.int IntKind.i64 nodes, Value.slice links_a links_l links_c, Value.slice up_a up_l up_c, Value.int IntKind.i64 t23, Value.int IntKind.i64 from'] m n fun (v0 : Value) (m1 : Mem) (k2 : Nat) =>
 ∃ (p3 : Option Addr),
 ∃ (k4 : Nat),
 ∃ (k5 : Nat),
 v0 = Value.slice p3 k4 k5 ∧
 Later
 (bif decide ((↑k4 : Int) > 0) then elimA p3 False fun (k6 k7 : Nat) (p8 : Option Nat) => ((0 : Int) ≤ 0 ∧ 0 < (↑k4 : Int) ∧ liveAt m1 k6 = true ∧ (p8 ≠ none → 0 < k5)) ∧ ∃ (x9 : Int), rd m1 k6 (offOf k7 p8 + 0) = some (Value.int IntKind.i64 x9) ∧ elimA out'_a False fun (k10 k11 : Nat) (p12 : Option Nat) => (0 ≤ t23 ∧ t23 < (↑out'_l : Int) ∧ liveAt m1 k10 = true ∧ (p12 ≠ none → 0 < out'_c)) ∧ ∃ (m13 : Mem), storeCs m1 k10 (offOf k11 p12 + t23.toNat * 1) [Value.int IntKind.i64 x9] = some m13 ∧ W Try.prog { fn := fSpfParents, nt := 43, slots := [(0, Value.int IntKind.i64 nodes), (1, Value.slice links_a links_l links_c), (2, Value.slice up_a up_l up_c), (3, Value.int IntKind.i64 from'), (9, Value.slice out'_a out'_l out'_c), (22, Value.int IntKind.i64 nodes), (23, Value.int IntKind.i64 (IntKind.i64.wrap (t23 + 1)))], todo := pt Try.prog fSpfParents [1, 1, 1, 0, 1, 0, 0] } m13 k2 Q
 else W Try.prog { fn := fSpfParents, nt := 43, slots := [(0, Value.int IntKind.i64 nodes), (1, Value.slice links_a links_l links_c), (2, Value.slice up_a up_l up_c), (3, Value.int IntKind.i64 from'), (9, Value.slice out'_a out'_l out'_c), (22, Value.int IntKind.i64 nodes), (23, Value.int IntKind.i64 (IntKind.i64.wrap (t23 + 1)))], todo := pt Try.prog fSpfParents [1, 1, 1, 0, 1, 0, 0] } m1 k2 Q)
 else Q (Value.slice out'_a out'_l out'_c) m n) := by kernel_rfl

/- 19 leafmesh/leafmeshref10.Parents -/
theorem xRef10Parents (m : Mem) (n : Nat) (Q : Value → Mem → Nat → Prop) (nodes : Int) (links_a : Option Addr) (links_l : Nat) (links_c : Nat) (up_a : Option Addr) (up_l : Nat) (up_c : Nat) (from' : Int) :
 Xc Try.prog xcfg 400 fRef10Parents [Value.int IntKind.i64 nodes, Value.slice links_a links_l links_c, Value.slice up_a up_l up_c, Value.int IntKind.i64 from'] m n Q =
 (Wc Try.prog fRef10Dist [Value.int IntKind.i64 nodes, Value.slice links_a links_l links_c, Value.slice up_a up_l up_c, Value.int IntKind.i64 from'] m n fun (v0 : Value) (m1 : Mem) (k2 : Nat) => ∃ (p3 : Option Addr), ∃ (k4 : Nat), ∃ (k5 : Nat), v0 = Value.slice p3 k4 k5 ∧ Later (W Try.prog { fn := fRef10Parents, nt := 43, slots := [(0, Value.int IntKind.i64 nodes), (1, Value.slice links_a links_l links_c), (2, Value.slice up_a up_l up_c), (3, Value.int IntKind.i64 from'), (9, Value.slice p3 k4 k5), (10, Value.slice none 0 0), (11, Value.int IntKind.i64 0)], todo := pt Try.prog fRef10Parents [1, 1, 1, 0, 1, 0, 0] } m1 k2 Q)) := by kernel_rfl

theorem xRef10Parentsk0 (m : Mem) (n : Nat) (Q : Value → Mem → Nat → Prop) (nodes : Int) (links_a : Option Addr) (links_l : Nat) (links_c : Nat) (up_a : Option Addr) (up_l : Nat) (up_c : Nat) (from' : Int) (d_a : Option Addr) (d_l : Nat) (d_c : Nat) (out'_a : Option Addr) (out'_l : Nat) (out'_c : Nat) (n' : Int) :
 xF (evX Try.prog xcfg 400) { fn := fRef10Parents, nt := 43, slots := [(0, Value.int IntKind.i64 nodes), (1, Value.slice links_a links_l links_c), (2, Value.slice up_a up_l up_c), (3, Value.int IntKind.i64 from'), (9, Value.slice d_a d_l d_c), (10, Value.slice out'_a out'_l out'_c), (11, Value.int IntKind.i64 n')], todo := pt Try.prog fRef10Parents [1, 1, 1, 0, 1, 0, 0] } m n Q =
 (bif decide (n' < (↑d_l : Int)) then
 Wc Try.prog fRef10Next [Value.int IntKind.i64 nodes, Value.slice links_a links_l links_c, Value.slice up_a up_l up_c, Value.int IntKind.i64 n', Value.int IntKind.i64 from'] m n fun (v0 : Value) (m1 : Mem) (k2 : Nat) =>
 ∃ (p3 : Option Addr),
 ∃ (k4 : Nat),
 ∃ (k5 : Nat),
 v0 = Value.slice p3 k4 k5 ∧
 Later
 (bif (↑k4 : Int) == 0 then memLet (Tr.set m1 k2 (AObj.cells none tInt 1 [Value.int IntKind.i64 (-1)])) fun (m6 : Mem) => ∃ (p7 : Option Addr), ∃ (k8 : Nat), ∃ (k9 : Nat), ∃ (m10 : Mem), ∃ (k11 : Nat), appendA Try.prog m6 (k2 + 1) tLint tLint (Value.slice out'_a out'_l out'_c) (Value.slice (some { block := k2, off := 0 }) 1 1) = Eff.val (Value.slice p7 k8 k9) m10 k11 ∧ W Try.prog { fn := fRef10Parents, nt := 43, slots := [(0, Value.int IntKind.i64 nodes), (1, Value.slice links_a links_l links_c), (2, Value.slice up_a up_l up_c), (3, Value.int IntKind.i64 from'), (9, Value.slice d_a d_l d_c), (10, Value.slice p7 k8 k9), (11, Value.int IntKind.i64 (IntKind.i64.wrap (n' + 1)))], todo := pt Try.prog fRef10Parents [1, 1, 1, 0, 1, 0, 0] } m10 k11 Q
 else
 elimA p3 False fun (k12 k13 : Nat) (p14 : Option Nat) =>
 ((0 : Int) ≤ 0 ∧ 0 < (↑k4 : Int) ∧ liveAt m1 k12 = true ∧ (p14 ≠ none → 0 < k5)) ∧
 ∃ (x15 : Int), rd m1 k12 (offOf k13 p14 + 0) = some (Value.int IntKind.i64 x15) ∧ memLet (Tr.set m1 k2 (AObj.cells none tInt 1 [Value.int IntKind.i64 x15])) fun (m16 : Mem) => ∃ (p17 : Option Addr), ∃ (k18 : Nat), ∃ (k19 : Nat), ∃ (m20 : Mem), ∃ (k21 : Nat), appendA Try.prog m16 (k2 + 1) tLint tLint (Value.slice out'_a out'_l out'_c) (Value.slice (some { block := k2, off := 0 }) 1 1) = Eff.val (Value.slice p17 k18 k19) m20 k21 ∧ W Try.prog { fn := fRef10Parents, nt := 43, slots := [(0, Value.int IntKind.i64 nodes), (1, Value.slice links_a links_l links_c), (2, Value.slice up_a up_l up_c), (3, Value.int IntKind.i64 from'), (9, Value.slice d_a d_l d_c), (10, Value.slice p17 k18 k19), (11, Value.int IntKind.i64 (IntKind.i64.wrap (n' + 1)))], todo := pt Try.prog fRef10Parents [1, 1, 1, 0, 1, 0, 0] } m20 k21 Q)
 else Q (Value.slice out'_a out'_l out'_c) m n) := by kernel_rfl

/- 20 leafmesh/spf.Path -/
theorem xSpfPath (m : Mem) (n : Nat) (Q : Value → Mem → Nat → Prop) (nodes : Int) (links_a : Option Addr) (links_l : Nat) (links_c : Nat) (up_a : Option Addr) (up_l : Nat) (up_c : Nat) (from' : Int) (to : Int) :
 Xc Try.prog xcfg 400 fSpfPath [Value.int IntKind.i64 nodes, Value.slice links_a links_l links_c, Value.slice up_a up_l up_c, Value.int IntKind.i64 from', Value.int IntKind.i64 to] m n Q =
 (memLet (Tr.set m n (AObj.cells none tInt 1 [Value.int IntKind.i64 from', Value.int IntKind.i64 to])) fun (m0 : Mem) =>
 Wc Try.prog fSpfvalid [Value.int IntKind.i64 nodes, Value.slice links_a links_l links_c, Value.slice up_a up_l up_c, Value.slice (some { block := n, off := 0 }) 2 2] m0 (n + 1) fun (v1 : Value) (m2 : Mem) (k3 : Nat) => ∃ (b4 : Bool), v1 = Value.bool b4 ∧ Later (bif !b4 then Q (Value.slice none 0 0) m2 k3 else Wc Try.prog fSpfParents [Value.int IntKind.i64 nodes, Value.slice links_a links_l links_c, Value.slice up_a up_l up_c, Value.int IntKind.i64 from'] m2 k3 fun (v5 : Value) (m6 : Mem) (k7 : Nat) => ∃ (p8 : Option Addr), ∃ (k9 : Nat), ∃ (k10 : Nat), v5 = Value.slice p8 k9 k10 ∧ Later (W Try.prog { fn := fSpfPath, nt := 54, slots := [(1, Value.slice links_a links_l links_c), (11, Value.slice p8 k9 k10), (12, Value.slice none 0 0), (13, Value.int IntKind.i64 to)], todo := pt Try.prog fSpfPath [1, 1, 1, 1, 0, 1, 0, 0] } m6 k7 Q))) := by kernel_rfl

theorem xSpfPathk0 (m : Mem) (n : Nat) (Q : Value → Mem → Nat → Prop) (links_a : Option Addr) (links_l : Nat) (links_c : Nat) (p_a : Option Addr) (p_l : Nat) (p_c : Nat) (out'_a : Option Addr) (out'_l : Nat) (out'_c : Nat) (n' : Int) :
 xF (evX Try.prog xcfg 400) { fn := fSpfPath, nt := 54, slots := [(1, Value.slice links_a links_l links_c), (11, Value.slice p_a p_l p_c), (12, Value.slice out'_a out'_l out'_c), (13, Value.int IntKind.i64 n')], todo := pt Try.prog fSpfPath [1, 1, 1, 1, 0, 1, 0, 0] } m n Q =
 (elimA p_a False fun (k0 k1 : Nat) (p2 : Option Nat) =>
 (0 ≤ n' ∧ n' < (↑p_l : Int) ∧ liveAt m k0 = true ∧ (p2 ≠ none → 0 < p_c)) ∧
 ∃ (x3 : Int),
 rd m k0 (offOf k1 p2 + n'.toNat * 1) = some (Value.int IntKind.i64 x3) ∧
 bif decide (x3 ≥ 0) then
 elimA p_a False fun (k4 k5 : Nat) (p6 : Option Nat) =>
 (0 ≤ n' ∧ n' < (↑p_l : Int) ∧ liveAt m k4 = true ∧ (p6 ≠ none → 0 < p_c)) ∧
 ∃ (x7 : Int),
 rd m k4 (offOf k5 p6 + n'.toNat * 1) = some (Value.int IntKind.i64 x7) ∧
 memLet (Tr.set m n (AObj.cells none tInt 1 [Value.int IntKind.i64 x7])) fun (m8 : Mem) =>
 ∃ (p9 : Option Addr),
 ∃ (k10 : Nat),
 ∃ (k11 : Nat),
 ∃ (m12 : Mem),
 ∃ (k13 : Nat),
 appendA Try.prog m8 (n + 1) tLint tLint (Value.slice out'_a out'_l out'_c) (Value.slice (some { block := n, off := 0 }) 1 1) = Eff.val (Value.slice p9 k10 k11) m12 k13 ∧
 elimA p9 False fun (k14 k15 : Nat) (p16 : Option Nat) =>
 (0 ≤ IntKind.i64.wrap ((↑k10 : Int) - 1) ∧ IntKind.i64.wrap ((↑k10 : Int) - 1) < (↑k10 : Int) ∧ liveAt m12 k14 = true ∧ (p16 ≠ none → 0 < k11)) ∧
 ∃ (x17 : Int),
 rd m12 k14 (offOf k15 p16 + (IntKind.i64.wrap ((↑k10 : Int) - 1)).toNat * 1) = some (Value.int IntKind.i64 x17) ∧
 elimA links_a False fun (k18 k19 : Nat) (p20 : Option Nat) => (0 ≤ x17 ∧ x17 < (↑links_l : Int) ∧ liveAt m12 k18 = true ∧ (p20 ≠ none → 0 < links_c)) ∧ ∃ (x21 : Int), ∃ (x22 : Int), ∃ (x23 : Int), rds m12 k18 (offOf k19 p20 + x17.toNat * 3) 3 = some [Value.int IntKind.i64 x21, Value.int IntKind.i64 x22, Value.int IntKind.i64 x23] ∧ Wc Try.prog fSpfother [Value.agg { toList := [Value.int IntKind.i64 x21, Value.int IntKind.i64 x22, Value.int IntKind.i64 x23] }, Value.int IntKind.i64 n'] m12 k13 fun (v24 : Value) (m25 : Mem) (k26 : Nat) => ∃ (x27 : Int), v24 = Value.int IntKind.i64 x27 ∧ Later (W Try.prog { fn := fSpfPath, nt := 54, slots := [(1, Value.slice links_a links_l links_c), (11, Value.slice p_a p_l p_c), (12, Value.slice p9 k10 k11), (13, Value.int IntKind.i64 x27)], todo := pt Try.prog fSpfPath [1, 1, 1, 1, 0, 1, 0, 0] } m25 k26 Q)
 else Wc Try.prog fSlicesReverseLintint [Value.slice out'_a out'_l out'_c] m n fun (v28 : Value) (m29 : Mem) (k30 : Nat) => v28 = Value.tuple { toList := [] } ∧ Later (Q (Value.slice out'_a out'_l out'_c) m29 k30)) := by kernel_rfl

/- 21 leafmesh/leafmeshref10.Path -/
theorem xRef10Path (m : Mem) (n : Nat) (Q : Value → Mem → Nat → Prop) (nodes : Int) (links_a : Option Addr) (links_l : Nat) (links_c : Nat) (up_a : Option Addr) (up_l : Nat) (up_c : Nat) (from' : Int) (to : Int) :
 Xc Try.prog xcfg 400 fRef10Path [Value.int IntKind.i64 nodes, Value.slice links_a links_l links_c, Value.slice up_a up_l up_c, Value.int IntKind.i64 from', Value.int IntKind.i64 to] m n Q =
 (Wc Try.prog fRef10Valid [Value.int IntKind.i64 nodes, Value.slice links_a links_l links_c, Value.slice up_a up_l up_c, Value.int IntKind.i64 to] m n fun (v0 : Value) (m1 : Mem) (k2 : Nat) => ∃ (b3 : Bool), v0 = Value.bool b3 ∧ Later (bif !b3 then Q (Value.slice none 0 0) m1 k2 else Wc Try.prog fRef10Parents [Value.int IntKind.i64 nodes, Value.slice links_a links_l links_c, Value.slice up_a up_l up_c, Value.int IntKind.i64 from'] m1 k2 fun (v4 : Value) (m5 : Mem) (k6 : Nat) => ∃ (p7 : Option Addr), ∃ (k8 : Nat), ∃ (k9 : Nat), v4 = Value.slice p7 k8 k9 ∧ Later (W Try.prog { fn := fRef10Path, nt := 56, slots := [(1, Value.slice links_a links_l links_c), (11, Value.slice p7 k8 k9), (12, Value.slice none 0 0), (13, Value.int IntKind.i64 to)], todo := pt Try.prog fRef10Path [1, 1, 1, 1, 0, 1, 0, 0] } m5 k6 Q))) := by kernel_rfl

theorem xRef10Pathk0 (m : Mem) (n : Nat) (Q : Value → Mem → Nat → Prop) (links_a : Option Addr) (links_l : Nat) (links_c : Nat) (p_a : Option Addr) (p_l : Nat) (p_c : Nat) (out'_a : Option Addr) (out'_l : Nat) (out'_c : Nat) (n' : Int) :
 xF (evX Try.prog xcfg 400) { fn := fRef10Path, nt := 56, slots := [(1, Value.slice links_a links_l links_c), (11, Value.slice p_a p_l p_c), (12, Value.slice out'_a out'_l out'_c), (13, Value.int IntKind.i64 n')], todo := pt Try.prog fRef10Path [1, 1, 1, 1, 0, 1, 0, 0] } m n Q =
 (bif decide ((↑p_l : Int) > 0) then
 elimA p_a False fun (k0 k1 : Nat) (p2 : Option Nat) =>
 (0 ≤ n' ∧ n' < (↑p_l : Int) ∧ liveAt m k0 = true ∧ (p2 ≠ none → 0 < p_c)) ∧
 ∃ (x3 : Int),
 rd m k0 (offOf k1 p2 + n'.toNat * 1) = some (Value.int IntKind.i64 x3) ∧
 bif decide (x3 ≥ 0) then
 elimA p_a False fun (k4 k5 : Nat) (p6 : Option Nat) =>
 (0 ≤ n' ∧ n' < (↑p_l : Int) ∧ liveAt m k4 = true ∧ (p6 ≠ none → 0 < p_c)) ∧
 ∃ (x7 : Int),
 rd m k4 (offOf k5 p6 + n'.toNat * 1) = some (Value.int IntKind.i64 x7) ∧
 memLet (Tr.set m n (AObj.cells none tInt 1 [Value.int IntKind.i64 x7])) fun (m8 : Mem) =>
 ∃ (p9 : Option Addr),
 ∃ (k10 : Nat),
 ∃ (k11 : Nat),
 ∃ (m12 : Mem),
 ∃ (k13 : Nat),
 appendA Try.prog m8 (n + 1) tLint tLint (Value.slice (some { block := n, off := 0 }) 1 1) (Value.slice out'_a out'_l out'_c) = Eff.val (Value.slice p9 k10 k11) m12 k13 ∧
 elimA p_a False fun (k14 k15 : Nat) (p16 : Option Nat) =>
 (0 ≤ n' ∧ n' < (↑p_l : Int) ∧ liveAt m12 k14 = true ∧ (p16 ≠ none → 0 < p_c)) ∧
 ∃ (x17 : Int),
 rd m12 k14 (offOf k15 p16 + n'.toNat * 1) = some (Value.int IntKind.i64 x17) ∧
 elimA links_a False fun (k18 k19 : Nat) (p20 : Option Nat) =>
 (0 ≤ x17 ∧ x17 < (↑links_l : Int) ∧ liveAt m12 k18 = true ∧ (p20 ≠ none → 0 < links_c)) ∧ ∃ (x21 : Int), ∃ (x22 : Int), ∃ (x23 : Int), rds m12 k18 (offOf k19 p20 + x17.toNat * 3) 3 = some [Value.int IntKind.i64 x21, Value.int IntKind.i64 x22, Value.int IntKind.i64 x23] ∧ Wc Try.prog fRef10Other [Value.agg { toList := [Value.int IntKind.i64 x21, Value.int IntKind.i64 x22, Value.int IntKind.i64 x23] }, Value.int IntKind.i64 n'] m12 k13 fun (v24 : Value) (m25 : Mem) (k26 : Nat) => ∃ (x27 : Int), ∃ (b28 : Bool), v24 = Value.tuple { toList := [Value.int IntKind.i64 x27, Value.bool b28] } ∧ Later (W Try.prog { fn := fRef10Path, nt := 56, slots := [(1, Value.slice links_a links_l links_c), (11, Value.slice p_a p_l p_c), (12, Value.slice p9 k10 k11), (13, Value.int IntKind.i64 x27)], todo := pt Try.prog fRef10Path [1, 1, 1, 1, 0, 1, 0, 0] } m25 k26 Q)
 else Q (Value.slice out'_a out'_l out'_c) m n
 else Q (Value.slice out'_a out'_l out'_c) m n) := by kernel_rfl

/- 22 leafmesh/leafmeshkit.Same[leafmesh/api.Link] -/
theorem xKitSameapiLink (m : Mem) (n : Nat) (Q : Value → Mem → Nat → Prop) (a_a : Option Addr) (a_l : Nat) (a_c : Nat) (b_a : Option Addr) (b_l : Nat) (b_c : Nat) :
 Xc Try.prog xcfg 400 fKitSameapiLink [Value.slice a_a a_l a_c, Value.slice b_a b_l b_c] m n Q =
 (bif (↑a_l : Int) != (↑b_l : Int) then Q (Value.bool false) m n else W Try.prog { fn := fKitSameapiLink, nt := 26, slots := [(0, Value.slice a_a a_l a_c), (1, Value.slice b_a b_l b_c), (5, Value.int IntKind.i64 0)], todo := pt Try.prog fKitSameapiLink [1, 1, 0, 1, 0, 0] } m n Q) := by kernel_rfl

theorem xKitSameapiLinkk0 (m : Mem) (n : Nat) (Q : Value → Mem → Nat → Prop) (a_a : Option Addr) (a_l : Nat) (a_c : Nat) (b_a : Option Addr) (b_l : Nat) (b_c : Nat) (i : Int) :
 xF (evX Try.prog xcfg 400) { fn := fKitSameapiLink, nt := 26, slots := [(0, Value.slice a_a a_l a_c), (1, Value.slice b_a b_l b_c), (5, Value.int IntKind.i64 i)], todo := pt Try.prog fKitSameapiLink [1, 1, 0, 1, 0, 0] } m n Q =
 (bif decide (i < (↑a_l : Int)) then
 elimA a_a False fun (k0 k1 : Nat) (p2 : Option Nat) =>
 (0 ≤ i ∧ i < (↑a_l : Int) ∧ liveAt m k0 = true ∧ (p2 ≠ none → 0 < a_c)) ∧ ∃ (x3 : Int), ∃ (x4 : Int), ∃ (x5 : Int), rds m k0 (offOf k1 p2 + i.toNat * 3) 3 = some [Value.int IntKind.i64 x3, Value.int IntKind.i64 x4, Value.int IntKind.i64 x5] ∧ elimA b_a False fun (k6 k7 : Nat) (p8 : Option Nat) => (0 ≤ i ∧ i < (↑b_l : Int) ∧ liveAt m k6 = true ∧ (p8 ≠ none → 0 < b_c)) ∧ ∃ (x9 : Int), ∃ (x10 : Int), ∃ (x11 : Int), rds m k6 (offOf k7 p8 + i.toNat * 3) 3 = some [Value.int IntKind.i64 x9, Value.int IntKind.i64 x10, Value.int IntKind.i64 x11] ∧ bif !(x3 == x9 && (x4 == x10 && (x5 == x11 && true))) then Q (Value.bool false) m (n + 9) else W Try.prog { fn := fKitSameapiLink, nt := 26, slots := [(0, Value.slice a_a a_l a_c), (1, Value.slice b_a b_l b_c), (5, Value.int IntKind.i64 (IntKind.i64.wrap (i + 1)))], todo := pt Try.prog fKitSameapiLink [1, 1, 0, 1, 0, 0] } m (n + 9) Q
 else Q (Value.bool true) m n) := by kernel_rfl

/- 23 leafmesh/leafmeshkit.Same[bool] -/
theorem xKitSamebool (m : Mem) (n : Nat) (Q : Value → Mem → Nat → Prop) (a_a : Option Addr) (a_l : Nat) (a_c : Nat) (b_a : Option Addr) (b_l : Nat) (b_c : Nat) :
 Xc Try.prog xcfg 400 fKitSamebool [Value.slice a_a a_l a_c, Value.slice b_a b_l b_c] m n Q =
 (bif (↑a_l : Int) != (↑b_l : Int) then Q (Value.bool false) m n else W Try.prog { fn := fKitSamebool, nt := 26, slots := [(0, Value.slice a_a a_l a_c), (1, Value.slice b_a b_l b_c), (5, Value.int IntKind.i64 0)], todo := pt Try.prog fKitSamebool [1, 1, 0, 1, 0, 0] } m n Q) := by kernel_rfl

theorem xKitSameboolk0 (m : Mem) (n : Nat) (Q : Value → Mem → Nat → Prop) (a_a : Option Addr) (a_l : Nat) (a_c : Nat) (b_a : Option Addr) (b_l : Nat) (b_c : Nat) (i : Int) :
 xF (evX Try.prog xcfg 400) { fn := fKitSamebool, nt := 26, slots := [(0, Value.slice a_a a_l a_c), (1, Value.slice b_a b_l b_c), (5, Value.int IntKind.i64 i)], todo := pt Try.prog fKitSamebool [1, 1, 0, 1, 0, 0] } m n Q =
 (bif decide (i < (↑a_l : Int)) then elimA a_a False fun (k0 k1 : Nat) (p2 : Option Nat) => (0 ≤ i ∧ i < (↑a_l : Int) ∧ liveAt m k0 = true ∧ (p2 ≠ none → 0 < a_c)) ∧ ∃ (b3 : Bool), rd m k0 (offOf k1 p2 + i.toNat * 1) = some (Value.bool b3) ∧ elimA b_a False fun (k4 k5 : Nat) (p6 : Option Nat) => (0 ≤ i ∧ i < (↑b_l : Int) ∧ liveAt m k4 = true ∧ (p6 ≠ none → 0 < b_c)) ∧ ∃ (b7 : Bool), rd m k4 (offOf k5 p6 + i.toNat * 1) = some (Value.bool b7) ∧ bif !b3 == b7 then Q (Value.bool false) m (n + 9) else W Try.prog { fn := fKitSamebool, nt := 26, slots := [(0, Value.slice a_a a_l a_c), (1, Value.slice b_a b_l b_c), (5, Value.int IntKind.i64 (IntKind.i64.wrap (i + 1)))], todo := pt Try.prog fKitSamebool [1, 1, 0, 1, 0, 0] } m (n + 9) Q else Q (Value.bool true) m n) := by kernel_rfl

/- 24 leafmesh/spf.Next -/
theorem xSpfNext (m : Mem) (n : Nat) (Q : Value → Mem → Nat → Prop) (nodes : Int) (links_a : Option Addr) (links_l : Nat) (links_c : Nat) (up_a : Option Addr) (up_l : Nat) (up_c : Nat) (from' : Int) (to : Int) :
 Xc Try.prog xcfg 400 fSpfNext [Value.int IntKind.i64 nodes, Value.slice links_a links_l links_c, Value.slice up_a up_l up_c, Value.int IntKind.i64 from', Value.int IntKind.i64 to] m n Q =
 (memLet (Tr.set m n (AObj.cells none tInt 1 [Value.int IntKind.i64 from'])) fun (m0 : Mem) =>
 ∃ (x1 : Int),
 rd m0 n 0 = some (Value.int IntKind.i64 x1) ∧
 memLet (Tr.set m0 (n + 1) (AObj.cells none tInt 1 [Value.int IntKind.i64 x1, Value.int IntKind.i64 to])) fun (m2 : Mem) =>
 Wc Try.prog fSpfvalid [Value.int IntKind.i64 nodes, Value.slice links_a links_l links_c, Value.slice up_a up_l up_c, Value.slice (some { block := n + 1, off := 0 }) 2 2] m2 (n + 1 + 1) fun (v3 : Value) (m4 : Mem) (k5 : Nat) =>
 ∃ (b6 : Bool),
 v3 = Value.bool b6 ∧
 Later
 (bif !b6 then Q (Value.slice none 0 0) m4 k5
 else
 Wc Try.prog fSpfDist [Value.int IntKind.i64 nodes, Value.slice links_a links_l links_c, Value.slice up_a up_l up_c, Value.int IntKind.i64 to] m4 k5 fun (v7 : Value) (m8 : Mem) (k9 : Nat) =>
 ∃ (p10 : Option Addr),
 ∃ (k11 : Nat),
 ∃ (k12 : Nat),
 v7 = Value.slice p10 k11 k12 ∧
 Later
 (memLet (Tr.set m8 k9 (AObj.cells none tLint 1 [Value.slice none 0 0])) fun (m13 : Mem) =>
 ∃ (m14 : Mem),
 storeCs m13 k9 0 [Value.slice p10 k11 k12] = some m14 ∧
 memLet (Tr.set m14 (k9 + 1) (AObj.cells none tLint 1 [Value.slice none 0 0])) fun (m15 : Mem) =>
 Wc Try.prog fSpffilterapiLink [Value.slice links_a links_l links_c, Value.slice up_a up_l up_c] m15 (k9 + 1 + 1) fun (v16 : Value) (m17 : Mem) (k18 : Nat) =>
 ∃ (y19 : FuncId),
 ∃ (l20 : List Value),
 ∃ (l21 : List Value),
 v16 = Value.func (Fn.func y19) { toList := l20 } { toList := l21 } ∧
 Later
 (memLet ((Tr.set m17 k18 (AObj.deferred (some []))).set (k18 + 1) (loopO fSpfNext 65 [(8, Value.pointer (some { block := n, off := 0 })), (11, Value.pointer (some { block := k9, off := 0 })), (12, Value.pointer (some { block := k9 + 1, off := 0 })), (31, Value.func (Fn.func y19) { toList := l20 } { toList := l21 })] LoopState.ready none (pt Try.prog fSpfNext [1, 1, 1, 1, 0, 1, 0]) k18)) fun (m22 : Mem) =>
 Wc Try.prog y19 (l20 ++ [Value.func (Fn.yield (k18 + 1)) { toList := [] } { toList := [] }] ++ l21) m22 (k18 + 2) fun (v23 : Value) (m24 : Mem) (k25 : Nat) =>
 ∃ (y26 : LoopState),
 ∃ (p27 : Option Code),
 Tr.get m24 (k18 + 1) = some (loopO fSpfNext 65 [(8, Value.pointer (some { block := n, off := 0 })), (11, Value.pointer (some { block := k9, off := 0 })), (12, Value.pointer (some { block := k9 + 1, off := 0 })), (31, Value.func (Fn.func y19) { toList := l20 } { toList := l21 })] y26 p27 (pt Try.prog fSpfNext [1, 1, 1, 1, 0, 1, 0]) k18) ∧
 isBusy y26 = false ∧ Later (memLet (Tr.set m24 (k18 + 1) (loopO fSpfNext 65 [(8, Value.pointer (some { block := n, off := 0 })), (11, Value.pointer (some { block := k9, off := 0 })), (12, Value.pointer (some { block := k9 + 1, off := 0 })), (31, Value.func (Fn.func y19) { toList := l20 } { toList := l21 })] LoopState.exhausted p27 (pt Try.prog fSpfNext [1, 1, 1, 1, 0, 1, 0]) k18)) fun (m28 : Mem) => elimJ p27 (∃ (p29 : Option Addr), ∃ (k30 : Nat), ∃ (k31 : Nat), rd m28 (k9 + 1) 0 = some (Value.slice p29 k30 k31) ∧ Tr.get m28 k18 = some (AObj.deferred (some [])) ∧ memLet (Tr.set m28 k18 (AObj.deferred none)) fun (m32 : Mem) => Q (Value.slice p29 k30 k31) m32 k25) (Tr.get m28 k18 = some (AObj.deferred (some [])) ∧ False) fun (y34 : Code) => False))))) := by kernel_rfl

theorem xSpfNextr0 (m : Mem) (n : Nat) (Q : Value → Mem → Nat → Prop) (from'_1 : Nat) (d : Nat) (out' : Nat) (t31 : Value) (Y : Nat) (t32v : Int) (t33v0 : Int) (t33v1 : Int) (t33v2 : Int) :
 xF (evX Try.prog xcfg 400) (roundF fSpfNext 65 [(8, Value.pointer (some { block := from'_1, off := 0 })), (11, Value.pointer (some { block := d, off := 0 })), (12, Value.pointer (some { block := out', off := 0 })), (31, t31)] (pt Try.prog fSpfNext [1, 1, 1, 1, 0, 1, 0]) [Value.int IntKind.i64 t32v, Value.agg { toList := [Value.int IntKind.i64 t33v0, Value.int IntKind.i64 t33v1, Value.int IntKind.i64 t33v2] }] Y) m n Q =
 (memLet (Tr.set m n (AObj.cells none tApiLink 3 [Value.int IntKind.i64 0, Value.int IntKind.i64 0, Value.int IntKind.i64 0])) fun (m0 : Mem) =>
 ∃ (m1 : Mem),
 storeCs m0 n 0 [Value.int IntKind.i64 t33v0, Value.int IntKind.i64 t33v1, Value.int IntKind.i64 t33v2] = some m1 ∧
 ∃ (y2 : AObj),
 Tr.get m1 Y = some y2 ∧
 lpReady y2 = true ∧
 memLet (Tr.set m1 Y (lpBusy y2)) fun (m3 : Mem) =>
 ∃ (x4 : Int),
 ∃ (x5 : Int),
 ∃ (x6 : Int),
 rds m3 n 0 3 = some [Value.int IntKind.i64 x4, Value.int IntKind.i64 x5, Value.int IntKind.i64 x6] ∧
 ∃ (x7 : Int),
 rd m3 from'_1 0 = some (Value.int IntKind.i64 x7) ∧
 Wc Try.prog fSpfother [Value.agg { toList := [Value.int IntKind.i64 x4, Value.int IntKind.i64 x5, Value.int IntKind.i64 x6] }, Value.int IntKind.i64 x7] m3 (n + 1) fun (v8 : Value) (m9 : Mem) (k10 : Nat) =>
 ∃ (x11 : Int),
 v8 = Value.int IntKind.i64 x11 ∧
 Later
 (bif decide (x11 ≥ 0) then
 ∃ (p12 : Option Addr),
 ∃ (k13 : Nat),
 ∃ (k14 : Nat),
 rd m9 d 0 = some (Value.slice p12 k13 k14) ∧
 elimA p12 False fun (k15 k16 : Nat) (p17 : Option Nat) =>
 (0 ≤ x11 ∧ x11 < (↑k13 : Int) ∧ liveAt m9 k15 = true ∧ (p17 ≠ none → 0 < k14)) ∧
 ∃ (x18 : Int),
 rd m9 k15 (offOf k16 p17 + x11.toNat * 1) = some (Value.int IntKind.i64 x18) ∧
 bif decide (x18 ≥ 0) then
 ∃ (p19 : Option Addr),
 ∃ (k20 : Nat),
 ∃ (k21 : Nat),
 rd m9 d 0 = some (Value.slice p19 k20 k21) ∧
 elimA p19 False fun (k22 k23 : Nat) (p24 : Option Nat) =>
 (0 ≤ x11 ∧ x11 < (↑k20 : Int) ∧ liveAt m9 k22 = true ∧ (p24 ≠ none → 0 < k21)) ∧
 ∃ (x25 : Int),
 rd m9 k22 (offOf k23 p24 + x11.toNat * 1) = some (Value.int IntKind.i64 x25) ∧
 isC m9 n = true ∧
 ∃ (x26 : Int),
 rd m9 n 2 = some (Value.int IntKind.i64 x26) ∧
 ∃ (p27 : Option Addr),
 ∃ (k28 : Nat),
 ∃ (k29 : Nat),
 rd m9 d 0 = some (Value.slice p27 k28 k29) ∧
 ∃ (x30 : Int),
 rd m9 from'_1 0 = some (Value.int IntKind.i64 x30) ∧
 elimA p27 False fun (k31 k32 : Nat) (p33 : Option Nat) =>
 (0 ≤ x30 ∧ x30 < (↑k28 : Int) ∧ liveAt m9 k31 = true ∧ (p33 ≠ none → 0 < k29)) ∧
 ∃ (x34 : Int),
 rd m9 k31 (offOf k32 p33 + x30.toNat * 1) = some (Value.int IntKind.i64 x34) ∧
 bif IntKind.i64.wrap (x25 + x26) == x34 then ∃ (p35 : Option Addr), ∃ (k36 : Nat), ∃ (k37 : Nat), rd m9 out' 0 = some (Value.slice p35 k36 k37) ∧ memLet (Tr.set m9 (k10 + 23) (AObj.cells none tInt 1 [Value.int IntKind.i64 t32v])) fun (m38 : Mem) => ∃ (p39 : Option Addr), ∃ (k40 : Nat), ∃ (k41 : Nat), ∃ (m42 : Mem), ∃ (k43 : Nat), appendA Try.prog m38 (k10 + 23 + 1) tLint tLint (Value.slice p35 k36 k37) (Value.slice (some { block := k10 + 23, off := 0 }) 1 1) = Eff.val (Value.slice p39 k40 k41) m42 k43 ∧ ∃ (m44 : Mem), storeCs m42 out' 0 [Value.slice p39 k40 k41] = some m44 ∧ ∃ (y45 : AObj), Tr.get m44 Y = some y45 ∧ isLp y45 = true ∧ memLet (Tr.set m44 Y (lpSet y45 LoopState.ready none)) fun (m46 : Mem) => Q (Value.bool true) m46 k43
 else ∃ (y47 : AObj), Tr.get m9 Y = some y47 ∧ isLp y47 = true ∧ memLet (Tr.set m9 Y (lpSet y47 LoopState.ready none)) fun (m48 : Mem) => Q (Value.bool true) m48 (k10 + 23)
 else ∃ (y49 : AObj), Tr.get m9 Y = some y49 ∧ isLp y49 = true ∧ memLet (Tr.set m9 Y (lpSet y49 LoopState.ready none)) fun (m50 : Mem) => Q (Value.bool true) m50 (k10 + 23)
 else ∃ (y51 : AObj), Tr.get m9 Y = some y51 ∧ isLp y51 = true ∧ memLet (Tr.set m9 Y (lpSet y51 LoopState.ready none)) fun (m52 : Mem) => Q (Value.bool true) m52 (k10 + 23))) := by kernel_rfl

/- 25 leafmesh/leafmeshref10.Next -/
theorem xRef10Next (m : Mem) (n : Nat) (Q : Value → Mem → Nat → Prop) (nodes : Int) (links_a : Option Addr) (links_l : Nat) (links_c : Nat) (up_a : Option Addr) (up_l : Nat) (up_c : Nat) (from' : Int) (to : Int) :
 Xc Try.prog xcfg 400 fRef10Next [Value.int IntKind.i64 nodes, Value.slice links_a links_l links_c, Value.slice up_a up_l up_c, Value.int IntKind.i64 from', Value.int IntKind.i64 to] m n Q =
 (Wc Try.prog fRef10Valid [Value.int IntKind.i64 nodes, Value.slice links_a links_l links_c, Value.slice up_a up_l up_c, Value.int IntKind.i64 from'] m n fun (v0 : Value) (m1 : Mem) (k2 : Nat) => ∃ (b3 : Bool), v0 = Value.bool b3 ∧ Later (bif !b3 then Q (Value.slice none 0 0) m1 k2 else Wc Try.prog fRef10Dist [Value.int IntKind.i64 nodes, Value.slice links_a links_l links_c, Value.slice up_a up_l up_c, Value.int IntKind.i64 to] m1 k2 fun (v4 : Value) (m5 : Mem) (k6 : Nat) => ∃ (p7 : Option Addr), ∃ (k8 : Nat), ∃ (k9 : Nat), v4 = Value.slice p7 k8 k9 ∧ Later (W Try.prog { fn := fRef10Next, nt := 83, slots := [(1, Value.slice links_a links_l links_c), (2, Value.slice up_a up_l up_c), (3, Value.int IntKind.i64 from'), (11, Value.slice p7 k8 k9), (12, Value.slice none 0 0), (13, Value.int IntKind.i64 0)], todo := pt Try.prog fRef10Next [1, 1, 1, 1, 0, 1, 0, 0] } m5 k6 Q))) := by kernel_rfl

theorem xRef10Nextk0 (m : Mem) (n : Nat) (Q : Value → Mem → Nat → Prop) (links_a : Option Addr) (links_l : Nat) (links_c : Nat) (up_a : Option Addr) (up_l : Nat) (up_c : Nat) (from' : Int) (d_a : Option Addr) (d_l : Nat) (d_c : Nat) (out'_a : Option Addr) (out'_l : Nat) (out'_c : Nat) (i : Int) :
 xF (evX Try.prog xcfg 400) { fn := fRef10Next, nt := 83, slots := [(1, Value.slice links_a links_l links_c), (2, Value.slice up_a up_l up_c), (3, Value.int IntKind.i64 from'), (11, Value.slice d_a d_l d_c), (12, Value.slice out'_a out'_l out'_c), (13, Value.int IntKind.i64 i)], todo := pt Try.prog fRef10Next [1, 1, 1, 1, 0, 1, 0, 0] } m n Q =
 (bif decide (i < (↑links_l : Int)) then
 bif decide ((↑d_l : Int) > 0) then
 elimA links_a False fun (k0 k1 : Nat) (p2 : Option Nat) =>
 (0 ≤ i ∧ i < (↑links_l : Int) ∧ liveAt m k0 = true ∧ (p2 ≠ none → 0 < links_c)) ∧
 ∃ (x3 : Int),
 ∃ (x4 : Int),
 ∃ (x5 : Int),
 rds m k0 (offOf k1 p2 + i.toNat * 3) 3 = some [Value.int IntKind.i64 x3, Value.int IntKind.i64 x4, Value.int IntKind.i64 x5] ∧
 Wc Try.prog fRef10Other [Value.agg { toList := [Value.int IntKind.i64 x3, Value.int IntKind.i64 x4, Value.int IntKind.i64 x5] }, Value.int IntKind.i64 from'] m n fun (v6 : Value) (m7 : Mem) (k8 : Nat) =>
 ∃ (x9 : Int),
 ∃ (b10 : Bool),
 v6 = Value.tuple { toList := [Value.int IntKind.i64 x9, Value.bool b10] } ∧
 Later
 (bif b10 then
 elimA up_a False fun (k11 k12 : Nat) (p13 : Option Nat) =>
 (0 ≤ i ∧ i < (↑up_l : Int) ∧ liveAt m7 k11 = true ∧ (p13 ≠ none → 0 < up_c)) ∧
 ∃ (b14 : Bool),
 rd m7 k11 (offOf k12 p13 + i.toNat * 1) = some (Value.bool b14) ∧
 bif b14 then
 elimA d_a False fun (k15 k16 : Nat) (p17 : Option Nat) =>
 (0 ≤ x9 ∧ x9 < (↑d_l : Int) ∧ liveAt m7 k15 = true ∧ (p17 ≠ none → 0 < d_c)) ∧
 ∃ (x18 : Int),
 rd m7 k15 (offOf k16 p17 + x9.toNat * 1) = some (Value.int IntKind.i64 x18) ∧
 bif decide (x18 ≥ 0) then
 elimA d_a False fun (k19 k20 : Nat) (p21 : Option Nat) =>
 (0 ≤ x9 ∧ x9 < (↑d_l : Int) ∧ liveAt m7 k19 = true ∧ (p21 ≠ none → 0 < d_c)) ∧
 ∃ (x22 : Int),
 rd m7 k19 (offOf k20 p21 + x9.toNat * 1) = some (Value.int IntKind.i64 x22) ∧
 elimA links_a False fun (k23 k24 : Nat) (p25 : Option Nat) =>
 (0 ≤ i ∧ i < (↑links_l : Int) ∧ liveAt m7 k23 = true ∧ (p25 ≠ none → 0 < links_c)) ∧
 isC m7 k23 = true ∧
 ∃ (x26 : Int),
 rd m7 k23 (offOf k24 p25 + i.toNat * 3 + 2) = some (Value.int IntKind.i64 x26) ∧
 elimA d_a False fun (k27 k28 : Nat) (p29 : Option Nat) =>
 (0 ≤ from' ∧ from' < (↑d_l : Int) ∧ liveAt m7 k27 = true ∧ (p29 ≠ none → 0 < d_c)) ∧
 ∃ (x30 : Int),
 rd m7 k27 (offOf k28 p29 + from'.toNat * 1) = some (Value.int IntKind.i64 x30) ∧
 bif IntKind.i64.wrap (x22 + x26) == x30 then memLet (Tr.set m7 (k8 + 31) (AObj.cells none tInt 1 [Value.int IntKind.i64 i])) fun (m31 : Mem) => ∃ (p32 : Option Addr), ∃ (k33 : Nat), ∃ (k34 : Nat), ∃ (m35 : Mem), ∃ (k36 : Nat), appendA Try.prog m31 (k8 + 31 + 1) tLint tLint (Value.slice out'_a out'_l out'_c) (Value.slice (some { block := k8 + 31, off := 0 }) 1 1) = Eff.val (Value.slice p32 k33 k34) m35 k36 ∧ W Try.prog { fn := fRef10Next, nt := 83, slots := [(1, Value.slice links_a links_l links_c), (2, Value.slice up_a up_l up_c), (3, Value.int IntKind.i64 from'), (11, Value.slice d_a d_l d_c), (12, Value.slice p32 k33 k34), (13, Value.int IntKind.i64 (IntKind.i64.wrap (i + 1)))], todo := pt Try.prog fRef10Next [1, 1, 1, 1, 0, 1, 0, 0] } m35 k36 Q
 else W Try.prog { fn := fRef10Next, nt := 83, slots := [(1, Value.slice links_a links_l links_c), (2, Value.slice up_a up_l up_c), (3, Value.int IntKind.i64 from'), (11, Value.slice d_a d_l d_c), (12, Value.slice out'_a out'_l out'_c), (13, Value.int IntKind.i64 (IntKind.i64.wrap (i + 1)))], todo := pt Try.prog fRef10Next [1, 1, 1, 1, 0, 1, 0, 0] } m7 (k8 + 31) Q
 else W Try.prog { fn := fRef10Next, nt := 83, slots := [(1, Value.slice links_a links_l links_c), (2, Value.slice up_a up_l up_c), (3, Value.int IntKind.i64 from'), (11, Value.slice d_a d_l d_c), (12, Value.slice out'_a out'_l out'_c), (13, Value.int IntKind.i64 (IntKind.i64.wrap (i + 1)))], todo := pt Try.prog fRef10Next [1, 1, 1, 1, 0, 1, 0, 0] } m7 (k8 + 31) Q
 else W Try.prog { fn := fRef10Next, nt := 83, slots := [(1, Value.slice links_a links_l links_c), (2, Value.slice up_a up_l up_c), (3, Value.int IntKind.i64 from'), (11, Value.slice d_a d_l d_c), (12, Value.slice out'_a out'_l out'_c), (13, Value.int IntKind.i64 (IntKind.i64.wrap (i + 1)))], todo := pt Try.prog fRef10Next [1, 1, 1, 1, 0, 1, 0, 0] } m7 (k8 + 31) Q
 else W Try.prog { fn := fRef10Next, nt := 83, slots := [(1, Value.slice links_a links_l links_c), (2, Value.slice up_a up_l up_c), (3, Value.int IntKind.i64 from'), (11, Value.slice d_a d_l d_c), (12, Value.slice out'_a out'_l out'_c), (13, Value.int IntKind.i64 (IntKind.i64.wrap (i + 1)))], todo := pt Try.prog fRef10Next [1, 1, 1, 1, 0, 1, 0, 0] } m7 (k8 + 31) Q)
 else Q (Value.slice out'_a out'_l out'_c) m n
 else Q (Value.slice out'_a out'_l out'_c) m n) := by kernel_rfl

/- 26 leafmesh/spf.Paths -/
theorem xSpfPaths (m : Mem) (n : Nat) (Q : Value → Mem → Nat → Prop) (nodes : Int) (links_a : Option Addr) (links_l : Nat) (links_c : Nat) (up_a : Option Addr) (up_l : Nat) (up_c : Nat) (from' : Int) (to : Int) :
 Xc Try.prog xcfg 400 fSpfPaths [Value.int IntKind.i64 nodes, Value.slice links_a links_l links_c, Value.slice up_a up_l up_c, Value.int IntKind.i64 from', Value.int IntKind.i64 to] m n Q =
 (memLet (Tr.set m n (AObj.cells none tInt 1 [Value.int IntKind.i64 nodes])) fun (m0 : Mem) =>
 memLet (Tr.set m0 (n + 1) (AObj.cells none tLapiLink 1 [Value.slice links_a links_l links_c])) fun (m1 : Mem) =>
 memLet (Tr.set m1 (n + 1 + 1) (AObj.cells none tLbool 1 [Value.slice up_a up_l up_c])) fun (m2 : Mem) =>
 memLet (Tr.set m2 (n + 1 + 1 + 1) (AObj.cells none tInt 1 [Value.int IntKind.i64 to])) fun (m3 : Mem) =>
 ∃ (x4 : Int),
 rd m3 n 0 = some (Value.int IntKind.i64 x4) ∧
 ∃ (p5 : Option Addr),
 ∃ (k6 : Nat),
 ∃ (k7 : Nat),
 rd m3 (n + 1) 0 = some (Value.slice p5 k6 k7) ∧
 ∃ (p8 : Option Addr),
 ∃ (k9 : Nat),
 ∃ (k10 : Nat),
 rd m3 (n + 1 + 1) 0 = some (Value.slice p8 k9 k10) ∧
 ∃ (x11 : Int),
 rd m3 (n + 1 + 1 + 1) 0 = some (Value.int IntKind.i64 x11) ∧
 memLet (Tr.set m3 (n + 1 + 1 + 1 + 1) (AObj.cells none tInt 1 [Value.int IntKind.i64 from', Value.int IntKind.i64 x11])) fun (m12 : Mem) =>
 Wc Try.prog fSpfvalid [Value.int IntKind.i64 x4, Value.slice p5 k6 k7, Value.slice p8 k9 k10, Value.slice (some { block := n + 1 + 1 + 1 + 1, off := 0 }) 2 2] m12 (n + 1 + 1 + 1 + 1 + 1) fun (v13 : Value) (m14 : Mem) (k15 : Nat) =>
 ∃ (b16 : Bool),
 v13 = Value.bool b16 ∧
 Later
 (bif !b16 then Q (Value.int IntKind.i64 0) m14 k15
 else
 memLet (Tr.set m14 k15 (AObj.map [] 0)) fun (m17 : Mem) =>
 ∃ (x18 : Int),
 rd m17 (n + 1 + 1 + 1) 0 = some (Value.int IntKind.i64 x18) ∧
 ∃ (l19 : List (Value × Value)),
 ∃ (k20 : Nat),
 Tr.get m17 k15 = some (AObj.map l19 k20) ∧
 (l19.all fun (e : Value × Value) => Ab.keyOf IntKind.i64 e.fst) = true ∧
 bif l19.any fun (e : Value × Value) => keyIs IntKind.i64 x18 e.fst then
 memLet (Tr.set m17 k15 (AObj.map (setKey l19 IntKind.i64 x18 (Value.int IntKind.i64 1)) k20)) fun (m21 : Mem) =>
 memLet (Tr.set m21 (k15 + 1) (AObj.cells none tMapintint 1 [Value.map none])) fun (m22 : Mem) =>
 ∃ (m23 : Mem),
 storeCs m22 (k15 + 1) 0 [Value.map (some k15)] = some m23 ∧
 memLet (Tr.set m23 (k15 + 1 + 1) (AObj.cells none tFuncintint 1 [Value.nilFunc])) fun (m24 : Mem) =>
 ∃ (m25 : Mem), storeCs m24 (k15 + 1 + 1) 0 [Value.func (Fn.func fSpfPaths1) { toList := [] } { toList := [Value.pointer (some { block := k15 + 1, off := 0 }), Value.pointer (some { block := n, off := 0 }), Value.pointer (some { block := n + 1, off := 0 }), Value.pointer (some { block := n + 1 + 1, off := 0 }), Value.pointer (some { block := n + 1 + 1 + 1, off := 0 }), Value.pointer (some { block := k15 + 1 + 1, off := 0 })] }] = some m25 ∧ ∃ (y26 : FuncId), ∃ (l27 : List Value), ∃ (l28 : List Value), rd m25 (k15 + 1 + 1) 0 = some (Value.func (Fn.func y26) { toList := l27 } { toList := l28 }) ∧ Wc Try.prog y26 (l27 ++ [Value.int IntKind.i64 from'] ++ l28) m25 (k15 + 1 + 1 + 1) fun (v29 : Value) (m30 : Mem) (k31 : Nat) => ∃ (x32 : Int), v29 = Value.int IntKind.i64 x32 ∧ Later (Q (Value.int IntKind.i64 x32) m30 k31)
 else
 memLet (Tr.set m17 k15 (AObj.map (l19 ++ [(Value.int IntKind.i64 x18, Value.int IntKind.i64 1)]) (k20 + 1))) fun (m33 : Mem) =>
 memLet (Tr.set m33 (k15 + 1) (AObj.cells none tMapintint 1 [Value.map none])) fun (m34 : Mem) =>
 ∃ (m35 : Mem),
 storeCs m34 (k15 + 1) 0 [Value.map (some k15)] = some m35 ∧
 memLet (Tr.set m35 (k15 + 1 + 1) (AObj.cells none tFuncintint 1 [Value.nilFunc])) fun (m36 : Mem) =>
 ∃ (m37 : Mem), storeCs m36 (k15 + 1 + 1) 0 [Value.func (Fn.func fSpfPaths1) { toList := [] } { toList := [Value.pointer (some { block := k15 + 1, off := 0 }), Value.pointer (some { block := n, off := 0 }), Value.pointer (some { block := n + 1, off := 0 }), Value.pointer (some { block := n + 1 + 1, off := 0 }), Value.pointer (some { block := n + 1 + 1 + 1, off := 0 }), Value.pointer (some { block := k15 + 1 + 1, off := 0 })] }] = some m37 ∧ ∃ (y38 : FuncId), ∃ (l39 : List Value), ∃ (l40 : List Value), rd m37 (k15 + 1 + 1) 0 = some (Value.func (Fn.func y38) { toList := l39 } { toList := l40 }) ∧ Wc Try.prog y38 (l39 ++ [Value.int IntKind.i64 from'] ++ l40) m37 (k15 + 1 + 1 + 1) fun (v41 : Value) (m42 : Mem) (k43 : Nat) => ∃ (x44 : Int), v41 = Value.int IntKind.i64 x44 ∧ Later (Q (Value.int IntKind.i64 x44) m42 k43))) := by kernel_rfl

/- 27 leafmesh/leafmeshref10.Paths -/
theorem xRef10Paths (m : Mem) (n : Nat) (Q : Value → Mem → Nat → Prop) (nodes : Int) (links_a : Option Addr) (links_l : Nat) (links_c : Nat) (up_a : Option Addr) (up_l : Nat) (up_c : Nat) (from' : Int) (to : Int) :
 Xc Try.prog xcfg 400 fRef10Paths [Value.int IntKind.i64 nodes, Value.slice links_a links_l links_c, Value.slice up_a up_l up_c, Value.int IntKind.i64 from', Value.int IntKind.i64 to] m n Q =
 (Wc Try.prog fRef10Valid [Value.int IntKind.i64 nodes, Value.slice links_a links_l links_c, Value.slice up_a up_l up_c, Value.int IntKind.i64 from'] m n fun (v0 : Value) (m1 : Mem) (k2 : Nat) =>
 ∃ (b3 : Bool),
 v0 = Value.bool b3 ∧
 Later
 (bif !b3 then Q (Value.int IntKind.i64 0) m1 k2
 else
 Wc Try.prog fRef10Valid [Value.int IntKind.i64 nodes, Value.slice links_a links_l links_c, Value.slice up_a up_l up_c, Value.int IntKind.i64 to] m1 k2 fun (v4 : Value) (m5 : Mem) (k6 : Nat) =>
 ∃ (b7 : Bool),
 v4 = Value.bool b7 ∧
 Later
 (bif !b7 then Q (Value.int IntKind.i64 0) m5 k6
 else
 Wc Try.prog fRef10Dist [Value.int IntKind.i64 nodes, Value.slice links_a links_l links_c, Value.slice up_a up_l up_c, Value.int IntKind.i64 to] m5 k6 fun (v8 : Value) (m9 : Mem) (k10 : Nat) =>
 ∃ (p11 : Option Addr),
 ∃ (k12 : Nat),
 ∃ (k13 : Nat),
 v8 = Value.slice p11 k12 k13 ∧
 Later
 ((0 ≤ nodes ∧ nodes ≤ nodes ∧ 9 * nodes ≤ 281474976710656) ∧
 memLet (Tr.set m9 k10 (AObj.cells none tInt 1 (List.replicate nodes.toNat [Value.int IntKind.i64 0]).flatten)) fun (m14 : Mem) =>
 (0 ≤ to ∧ to < (↑nodes.toNat : Int) ∧ liveAt m14 k10 = true ∧ ((none : Option Nat) ≠ none → 0 < nodes.toNat)) ∧
 ∃ (m15 : Mem), storeCs m14 k10 (0 + to.toNat * 1) [Value.int IntKind.i64 1] = some m15 ∧ (0 ≤ nodes ∧ nodes ≤ nodes ∧ 2 * nodes ≤ 281474976710656) ∧ memLet (Tr.set m15 (k10 + 1) (AObj.cells none tBool 1 (List.replicate nodes.toNat [Value.bool false]).flatten)) fun (m16 : Mem) => W Try.prog { fn := fRef10Paths, nt := 131, slots := [(0, Value.int IntKind.i64 nodes), (1, Value.slice links_a links_l links_c), (2, Value.slice up_a up_l up_c), (3, Value.int IntKind.i64 from'), (4, Value.int IntKind.i64 to), (11, Value.slice p11 k12 k13), (12, Value.slice (some { block := k10, off := 0 }) nodes.toNat nodes.toNat), (13, Value.slice (some { block := k10 + 1, off := 0 }) nodes.toNat nodes.toNat), (14, Value.int IntKind.i64 0)], todo := pt Try.prog fRef10Paths [1, 1, 1, 1, 1, 1, 0, 1, 0, 0] } m16 (k10 + 1 + 1) Q)))) := by kernel_rfl

theorem xRef10Pathsk0 (m : Mem) (n : Nat) (Q : Value → Mem → Nat → Prop) (nodes : Int) (links_a : Option Addr) (links_l : Nat) (links_c : Nat) (up_a : Option Addr) (up_l : Nat) (up_c : Nat) (from' : Int) (to : Int) (d_a : Option Addr) (d_l : Nat) (d_c : Nat) (many_a : Option Addr) (many_l : Nat) (many_c : Nat) (done_a : Option Addr) (done_l : Nat) (done_c : Nat) (k : Int) :
 xF (evX Try.prog xcfg 400) { fn := fRef10Paths, nt := 131, slots := [(0, Value.int IntKind.i64 nodes), (1, Value.slice links_a links_l links_c), (2, Value.slice up_a up_l up_c), (3, Value.int IntKind.i64 from'), (4, Value.int IntKind.i64 to), (11, Value.slice d_a d_l d_c), (12, Value.slice many_a many_l many_c), (13, Value.slice done_a done_l done_c), (14, Value.int IntKind.i64 k)], todo := pt Try.prog fRef10Paths [1, 1, 1, 1, 1, 1, 0, 1, 0, 0] } m n Q =
 (bif decide (k < nodes) then W Try.prog { fn := fRef10Paths, nt := 131, slots := [(0, Value.int IntKind.i64 nodes), (1, Value.slice links_a links_l links_c), (2, Value.slice up_a up_l up_c), (3, Value.int IntKind.i64 from'), (4, Value.int IntKind.i64 to), (11, Value.slice d_a d_l d_c), (12, Value.slice many_a many_l many_c), (13, Value.slice done_a done_l done_c), (14, Value.int IntKind.i64 k), (15, Value.int IntKind.i64 (-1)), (16, Value.int IntKind.i64 0)], todo := pt Try.prog fRef10Paths [1, 1, 1, 1, 1, 1, 0, 1, 0, 0, 1, 0, 0, 1, 0, 1, 0, 0] } m n Q else elimA many_a False fun (k0 k1 : Nat) (p2 : Option Nat) => (0 ≤ from' ∧ from' < (↑many_l : Int) ∧ liveAt m k0 = true ∧ (p2 ≠ none → 0 < many_c)) ∧ ∃ (x3 : Int), rd m k0 (offOf k1 p2 + from'.toNat * 1) = some (Value.int IntKind.i64 x3) ∧ Q (Value.int IntKind.i64 x3) m n) := by kernel_rfl

theorem xRef10Pathsk1 (m : Mem) (n : Nat) (Q : Value → Mem → Nat → Prop) (nodes : Int) (links_a : Option Addr) (links_l : Nat) (links_c : Nat) (up_a : Option Addr) (up_l : Nat) (up_c : Nat) (from' : Int) (to : Int) (d_a : Option Addr) (d_l : Nat) (d_c : Nat) (many_a : Option Addr) (many_l : Nat) (many_c : Nat) (done_a : Option Addr) (done_l : Nat) (done_c : Nat) (k : Int) (n' : Int) (i : Int) :
 xF (evX Try.prog xcfg 400) { fn := fRef10Paths, nt := 131, slots := [(0, Value.int IntKind.i64 nodes), (1, Value.slice links_a links_l links_c), (2, Value.slice up_a up_l up_c), (3, Value.int IntKind.i64 from'), (4, Value.int IntKind.i64 to), (11, Value.slice d_a d_l d_c), (12, Value.slice many_a many_l many_c), (13, Value.slice done_a done_l done_c), (14, Value.int IntKind.i64 k), (15, Value.int IntKind.i64 n'), (16, Value.int IntKind.i64 i)], todo := pt Try.prog fRef10Paths [1, 1, 1, 1, 1, 1, 0, 1, 0, 0, 1, 0, 0, 1, 0, 1, 0, 0] } m n Q =
 (bif decide (i < nodes) then
 elimA done_a False fun (k0 k1 : Nat) (p2 : Option Nat) =>
 (0 ≤ i ∧ i < (↑done_l : Int) ∧ liveAt m k0 = true ∧ (p2 ≠ none → 0 < done_c)) ∧
 ∃ (b3 : Bool),
 rd m k0 (offOf k1 p2 + i.toNat * 1) = some (Value.bool b3) ∧
 bif !b3 then
 elimA d_a False fun (k4 k5 : Nat) (p6 : Option Nat) =>
 (0 ≤ i ∧ i < (↑d_l : Int) ∧ liveAt m k4 = true ∧ (p6 ≠ none → 0 < d_c)) ∧
 ∃ (x7 : Int),
 rd m k4 (offOf k5 p6 + i.toNat * 1) = some (Value.int IntKind.i64 x7) ∧
 bif decide (x7 ≥ 0) then
 bif decide (n' < 0) then W Try.prog { fn := fRef10Paths, nt := 131, slots := [(0, Value.int IntKind.i64 nodes), (1, Value.slice links_a links_l links_c), (2, Value.slice up_a up_l up_c), (3, Value.int IntKind.i64 from'), (4, Value.int IntKind.i64 to), (11, Value.slice d_a d_l d_c), (12, Value.slice many_a many_l many_c), (13, Value.slice done_a done_l done_c), (14, Value.int IntKind.i64 k), (15, Value.int IntKind.i64 i), (16, Value.int IntKind.i64 (IntKind.i64.wrap (i + 1)))], todo := pt Try.prog fRef10Paths [1, 1, 1, 1, 1, 1, 0, 1, 0, 0, 1, 0, 0, 1, 0, 1, 0, 0] } m (n + 27) Q
 else
 elimA d_a False fun (k8 k9 : Nat) (p10 : Option Nat) =>
 (0 ≤ i ∧ i < (↑d_l : Int) ∧ liveAt m k8 = true ∧ (p10 ≠ none → 0 < d_c)) ∧
 ∃ (x11 : Int),
 rd m k8 (offOf k9 p10 + i.toNat * 1) = some (Value.int IntKind.i64 x11) ∧
 elimA d_a False fun (k12 k13 : Nat) (p14 : Option Nat) =>
 (0 ≤ n' ∧ n' < (↑d_l : Int) ∧ liveAt m k12 = true ∧ (p14 ≠ none → 0 < d_c)) ∧
 ∃ (x15 : Int),
 rd m k12 (offOf k13 p14 + n'.toNat * 1) = some (Value.int IntKind.i64 x15) ∧
 bif decide (x11 < x15) then W Try.prog { fn := fRef10Paths, nt := 131, slots := [(0, Value.int IntKind.i64 nodes), (1, Value.slice links_a links_l links_c), (2, Value.slice up_a up_l up_c), (3, Value.int IntKind.i64 from'), (4, Value.int IntKind.i64 to), (11, Value.slice d_a d_l d_c), (12, Value.slice many_a many_l many_c), (13, Value.slice done_a done_l done_c), (14, Value.int IntKind.i64 k), (15, Value.int IntKind.i64 i), (16, Value.int IntKind.i64 (IntKind.i64.wrap (i + 1)))], todo := pt Try.prog fRef10Paths [1, 1, 1, 1, 1, 1, 0, 1, 0, 0, 1, 0, 0, 1, 0, 1, 0, 0] } m (n + 27) Q
 else W Try.prog { fn := fRef10Paths, nt := 131, slots := [(0, Value.int IntKind.i64 nodes), (1, Value.slice links_a links_l links_c), (2, Value.slice up_a up_l up_c), (3, Value.int IntKind.i64 from'), (4, Value.int IntKind.i64 to), (11, Value.slice d_a d_l d_c), (12, Value.slice many_a many_l many_c), (13, Value.slice done_a done_l done_c), (14, Value.int IntKind.i64 k), (15, Value.int IntKind.i64 n'), (16, Value.int IntKind.i64 (IntKind.i64.wrap (i + 1)))], todo := pt Try.prog fRef10Paths [1, 1, 1, 1, 1, 1, 0, 1, 0, 0, 1, 0, 0, 1, 0, 1, 0, 0] } m (n + 27) Q
 else W Try.prog { fn := fRef10Paths, nt := 131, slots := [(0, Value.int IntKind.i64 nodes), (1, Value.slice links_a links_l links_c), (2, Value.slice up_a up_l up_c), (3, Value.int IntKind.i64 from'), (4, Value.int IntKind.i64 to), (11, Value.slice d_a d_l d_c), (12, Value.slice many_a many_l many_c), (13, Value.slice done_a done_l done_c), (14, Value.int IntKind.i64 k), (15, Value.int IntKind.i64 n'), (16, Value.int IntKind.i64 (IntKind.i64.wrap (i + 1)))], todo := pt Try.prog fRef10Paths [1, 1, 1, 1, 1, 1, 0, 1, 0, 0, 1, 0, 0, 1, 0, 1, 0, 0] } m (n + 27) Q
 else W Try.prog { fn := fRef10Paths, nt := 131, slots := [(0, Value.int IntKind.i64 nodes), (1, Value.slice links_a links_l links_c), (2, Value.slice up_a up_l up_c), (3, Value.int IntKind.i64 from'), (4, Value.int IntKind.i64 to), (11, Value.slice d_a d_l d_c), (12, Value.slice many_a many_l many_c), (13, Value.slice done_a done_l done_c), (14, Value.int IntKind.i64 k), (15, Value.int IntKind.i64 n'), (16, Value.int IntKind.i64 (IntKind.i64.wrap (i + 1)))], todo := pt Try.prog fRef10Paths [1, 1, 1, 1, 1, 1, 0, 1, 0, 0, 1, 0, 0, 1, 0, 1, 0, 0] } m (n + 27) Q
 else
 bif decide (n' < 0) then elimA many_a False fun (k16 k17 : Nat) (p18 : Option Nat) => (0 ≤ from' ∧ from' < (↑many_l : Int) ∧ liveAt m k16 = true ∧ (p18 ≠ none → 0 < many_c)) ∧ ∃ (x19 : Int), rd m k16 (offOf k17 p18 + from'.toNat * 1) = some (Value.int IntKind.i64 x19) ∧ Q (Value.int IntKind.i64 x19) m n
 else
 elimA done_a False fun (k20 k21 : Nat) (p22 : Option Nat) =>
 (0 ≤ n' ∧ n' < (↑done_l : Int) ∧ liveAt m k20 = true ∧ (p22 ≠ none → 0 < done_c)) ∧
 ∃ (m23 : Mem),
 storeCs m k20 (offOf k21 p22 + n'.toNat * 1) [Value.bool true] = some m23 ∧
 Wc Try.prog fRef10Next [Value.int IntKind.i64 nodes, Value.slice links_a links_l links_c, Value.slice up_a up_l up_c, Value.int IntKind.i64 n', Value.int IntKind.i64 to] m23 n fun (v24 : Value) (m25 : Mem) (k26 : Nat) => ∃ (p27 : Option Addr), ∃ (k28 : Nat), ∃ (k29 : Nat), v24 = Value.slice p27 k28 k29 ∧ Later (W Try.prog { fn := fRef10Paths, nt := 131, slots := [(0, Value.int IntKind.i64 nodes), (1, Value.slice links_a links_l links_c), (2, Value.slice up_a up_l up_c), (3, Value.int IntKind.i64 from'), (4, Value.int IntKind.i64 to), (11, Value.slice d_a d_l d_c), (12, Value.slice many_a many_l many_c), (13, Value.slice done_a done_l done_c), (14, Value.int IntKind.i64 k), (15, Value.int IntKind.i64 n'), (17, Value.slice p27 k28 k29), (18, Value.int IntKind.i64 0)], todo := pt Try.prog fRef10Paths [1, 1, 1, 1, 1, 1, 0, 1, 0, 0, 1, 0, 0, 1, 1, 1, 1, 1, 1, 0, 0] } m25 k26 Q)) := by kernel_rfl

theorem xRef10Pathsk2 (m : Mem) (n : Nat) (Q : Value → Mem → Nat → Prop) (nodes : Int) (links_a : Option Addr) (links_l : Nat) (links_c : Nat) (up_a : Option Addr) (up_l : Nat) (up_c : Nat) (from' : Int) (to : Int) (d_a : Option Addr) (d_l : Nat) (d_c : Nat) (many_a : Option Addr) (many_l : Nat) (many_c : Nat) (done_a : Option Addr) (done_l : Nat) (done_c : Nat) (k : Int) (n' : Int) (l_a : Option Addr) (l_l : Nat) (l_c : Nat) (i_1 : Int) :
 xF (evX Try.prog xcfg 400) { fn := fRef10Paths, nt := 131, slots := [(0, Value.int IntKind.i64 nodes), (1, Value.slice links_a links_l links_c), (2, Value.slice up_a up_l up_c), (3, Value.int IntKind.i64 from'), (4, Value.int IntKind.i64 to), (11, Value.slice d_a d_l d_c), (12, Value.slice many_a many_l many_c), (13, Value.slice done_a done_l done_c), (14, Value.int IntKind.i64 k), (15, Value.int IntKind.i64 n'), (17, Value.slice l_a l_l l_c), (18, Value.int IntKind.i64 i_1)], todo := pt Try.prog fRef10Paths [1, 1, 1, 1, 1, 1, 0, 1, 0, 0, 1, 0, 0, 1, 1, 1, 1, 1, 1, 0, 0] } m n Q =
 (bif decide (i_1 < (↑l_l : Int)) then
 elimA l_a False fun (k0 k1 : Nat) (p2 : Option Nat) =>
 (0 ≤ i_1 ∧ i_1 < (↑l_l : Int) ∧ liveAt m k0 = true ∧ (p2 ≠ none → 0 < l_c)) ∧
 ∃ (x3 : Int),
 rd m k0 (offOf k1 p2 + i_1.toNat * 1) = some (Value.int IntKind.i64 x3) ∧
 elimA links_a False fun (k4 k5 : Nat) (p6 : Option Nat) =>
 (0 ≤ x3 ∧ x3 < (↑links_l : Int) ∧ liveAt m k4 = true ∧ (p6 ≠ none → 0 < links_c)) ∧
 ∃ (x7 : Int),
 ∃ (x8 : Int),
 ∃ (x9 : Int),
 rds m k4 (offOf k5 p6 + x3.toNat * 3) 3 = some [Value.int IntKind.i64 x7, Value.int IntKind.i64 x8, Value.int IntKind.i64 x9] ∧
 Wc Try.prog fRef10Other [Value.agg { toList := [Value.int IntKind.i64 x7, Value.int IntKind.i64 x8, Value.int IntKind.i64 x9] }, Value.int IntKind.i64 n'] m n fun (v10 : Value) (m11 : Mem) (k12 : Nat) =>
 ∃ (x13 : Int),
 ∃ (b14 : Bool),
 v10 = Value.tuple { toList := [Value.int IntKind.i64 x13, Value.bool b14] } ∧
 Later
 (elimA many_a False fun (k15 k16 : Nat) (p17 : Option Nat) =>
 (0 ≤ n' ∧ n' < (↑many_l : Int) ∧ liveAt m11 k15 = true ∧ (p17 ≠ none → 0 < many_c)) ∧
 ∃ (x18 : Int),
 rd m11 k15 (offOf k16 p17 + n'.toNat * 1) = some (Value.int IntKind.i64 x18) ∧
 elimA many_a False fun (k19 k20 : Nat) (p21 : Option Nat) =>
 (0 ≤ x13 ∧ x13 < (↑many_l : Int) ∧ liveAt m11 k19 = true ∧ (p21 ≠ none → 0 < many_c)) ∧
 ∃ (x22 : Int),
 rd m11 k19 (offOf k20 p21 + x13.toNat * 1) = some (Value.int IntKind.i64 x22) ∧
 elimA many_a False fun (k23 k24 : Nat) (p25 : Option Nat) =>
 (0 ≤ n' ∧ n' < (↑many_l : Int) ∧ liveAt m11 k23 = true ∧ (p25 ≠ none → 0 < many_c)) ∧
 ∃ (m26 : Mem), storeCs m11 k23 (offOf k24 p25 + n'.toNat * 1) [Value.int IntKind.i64 (if IntKind.i64.wrap (x18 + x22) < 1073741824 then IntKind.i64.wrap (x18 + x22) else 1073741824)] = some m26 ∧ k12 + 14 ≤ k12 + 14 ∧ W Try.prog { fn := fRef10Paths, nt := 131, slots := [(0, Value.int IntKind.i64 nodes), (1, Value.slice links_a links_l links_c), (2, Value.slice up_a up_l up_c), (3, Value.int IntKind.i64 from'), (4, Value.int IntKind.i64 to), (11, Value.slice d_a d_l d_c), (12, Value.slice many_a many_l many_c), (13, Value.slice done_a done_l done_c), (14, Value.int IntKind.i64 k), (15, Value.int IntKind.i64 n'), (17, Value.slice l_a l_l l_c), (18, Value.int IntKind.i64 (IntKind.i64.wrap (i_1 + 1)))], todo := pt Try.prog fRef10Paths [1, 1, 1, 1, 1, 1, 0, 1, 0, 0, 1, 0, 0, 1, 1, 1, 1, 1, 1, 0, 0] } m26 (k12 + 14) Q)
 else W Try.prog { fn := fRef10Paths, nt := 131, slots := [(0, Value.int IntKind.i64 nodes), (1, Value.slice links_a links_l links_c), (2, Value.slice up_a up_l up_c), (3, Value.int IntKind.i64 from'), (4, Value.int IntKind.i64 to), (11, Value.slice d_a d_l d_c), (12, Value.slice many_a many_l many_c), (13, Value.slice done_a done_l done_c), (14, Value.int IntKind.i64 (IntKind.i64.wrap (k + 1)))], todo := pt Try.prog fRef10Paths [1, 1, 1, 1, 1, 1, 0, 1, 0, 0] } m n Q) := by kernel_rfl

/- 28 leafmesh/leafmeshlaw10.five -/
theorem xLaw10five (m : Mem) (n : Nat) (Q : Value → Mem → Nat → Prop) (down_a : Option Addr) (down_l : Nat) (down_c : Nat) :
 Xc Try.prog xcfg 400 fLaw10five [Value.slice down_a down_l down_c] m n Q =
 (memLet (Tr.set m n (AObj.cells none tLaw10Net 3 [Value.int IntKind.i64 0, Value.slice none 0 0, Value.slice none 0 0])) fun (m0 : Mem) =>
 memLet (Tr.set m0 (n + 1) (AObj.cells none tApiLink 3 [Value.int IntKind.i64 0, Value.int IntKind.i64 2, Value.int IntKind.i64 1, Value.int IntKind.i64 0, Value.int IntKind.i64 3, Value.int IntKind.i64 1, Value.int IntKind.i64 1, Value.int IntKind.i64 2, Value.int IntKind.i64 2, Value.int IntKind.i64 1, Value.int IntKind.i64 3, Value.int IntKind.i64 2, Value.int IntKind.i64 1, Value.int IntKind.i64 3, Value.int IntKind.i64 2, Value.int IntKind.i64 0, Value.int IntKind.i64 1, Value.int IntKind.i64 9])) fun (m1 : Mem) =>
 memLet (Tr.set m1 (n + 1 + 1) (AObj.cells none tLaw10Net 3 [Value.int IntKind.i64 0, Value.slice none 0 0, Value.slice none 0 0])) fun (m2 : Mem) => ∃ (m3 : Mem), storeCs m2 (n + 1 + 1) 0 [Value.int IntKind.i64 5, Value.slice (some { block := n + 1, off := 0 }) 6 6, Value.slice none 0 0] = some m3 ∧ W Try.prog { fn := fLaw10five, nt := 30, slots := [(0, Value.slice down_a down_l down_c), (2, Value.pointer (some { block := n, off := 0 })), (3, Value.pointer (some { block := n + 1 + 1, off := 0 })), (4, Value.int IntKind.i64 0)], todo := pt Try.prog fLaw10five [1, 1, 0, 1, 0, 0] } m3 (n + 1 + 1 + 1) Q) := by kernel_rfl

theorem xLaw10fivek0 (m : Mem) (n : Nat) (Q : Value → Mem → Nat → Prop) (down_a : Option Addr) (down_l : Nat) (down_c : Nat) (t2 : Nat) (x : Nat) (i : Int) :
 xF (evX Try.prog xcfg 400) { fn := fLaw10five, nt := 30, slots := [(0, Value.slice down_a down_l down_c), (2, Value.pointer (some { block := t2, off := 0 })), (3, Value.pointer (some { block := x, off := 0 })), (4, Value.int IntKind.i64 i)], todo := pt Try.prog fLaw10five [1, 1, 0, 1, 0, 0] } m n Q =
 (isC m x = true ∧
 ∃ (p0 : Option Addr),
 ∃ (k1 : Nat),
 ∃ (k2 : Nat),
 rd m x 1 = some (Value.slice p0 k1 k2) ∧
 bif decide (i < (↑k1 : Int)) then
 isC m x = true ∧
 ∃ (p3 : Option Addr),
 ∃ (k4 : Nat),
 ∃ (k5 : Nat),
 rd m x 2 = some (Value.slice p3 k4 k5) ∧
 ∃ (b6 : Bool),
 ∃ (m7 : Mem),
 ∃ (k8 : Nat),
 (Wc Try.prog fKitHasint [Value.slice down_a down_l down_c, Value.int IntKind.i64 i] m (n + 10) fun (v9 : Value) (m10 : Mem) (k11 : Nat) => v9 = Value.bool b6 ∧ m10 = m7 ∧ k11 = k8) ∧
 Later
 (memLet (Tr.set m7 (n + 6) (AObj.cells none tBool 1 [Value.bool !b6])) fun (m12 : Mem) =>
 ∃ (p13 : Option Addr),
 ∃ (k14 : Nat),
 ∃ (k15 : Nat),
 ∃ (m16 : Mem),
 ∃ (k17 : Nat),
 appendA Try.prog m12 k8 tLbool tLbool (Value.slice p3 k4 k5) (Value.slice (some { block := n + 6, off := 0 }) 1 1) = Eff.val (Value.slice p13 k14 k15) m16 k17 ∧
 isC m16 x = true ∧ ∃ (m18 : Mem), storeCs m16 x 2 [Value.slice p13 k14 k15] = some m18 ∧ (∃ (p19 : Option Addr), ∃ (k20 : Nat), ∃ (k21 : Nat), rd m7 x 2 = some (Value.slice p19 k20 k21) ∧ Value.slice p19 k20 k21 = Value.slice p3 k4 k5) ∧ (isC m7 x = true ∧ Value.pointer (some { block := x, off := 2 }) = Value.pointer (some { block := x, off := 2 })) ∧ n + 10 ≤ k8 ∧ n + 10 ≤ k17 ∧ n + 10 ≤ k17 ∧ Tr.get m7 (n + 6) = none ∧ W Try.prog { fn := fLaw10five, nt := 30, slots := [(0, Value.slice down_a down_l down_c), (2, Value.pointer (some { block := t2, off := 0 })), (3, Value.pointer (some { block := x, off := 0 })), (4, Value.int IntKind.i64 (IntKind.i64.wrap (i + 1)))], todo := pt Try.prog fLaw10five [1, 1, 0, 1, 0, 0] } m18 k17 Q)
 else ∃ (x22 : Int), ∃ (p23 : Option Addr), ∃ (k24 : Nat), ∃ (k25 : Nat), ∃ (p26 : Option Addr), ∃ (k27 : Nat), ∃ (k28 : Nat), rds m x 0 3 = some [Value.int IntKind.i64 x22, Value.slice p23 k24 k25, Value.slice p26 k27 k28] ∧ ∃ (m29 : Mem), storeCs m t2 0 [Value.int IntKind.i64 x22, Value.slice p23 k24 k25, Value.slice p26 k27 k28] = some m29 ∧ ∃ (x30 : Int), ∃ (p31 : Option Addr), ∃ (k32 : Nat), ∃ (k33 : Nat), ∃ (p34 : Option Addr), ∃ (k35 : Nat), ∃ (k36 : Nat), rds m29 t2 0 3 = some [Value.int IntKind.i64 x30, Value.slice p31 k32 k33, Value.slice p34 k35 k36] ∧ Q (Value.agg { toList := [Value.int IntKind.i64 x30, Value.slice p31 k32 k33, Value.slice p34 k35 k36] }) m29 n) := by kernel_rfl

/- 29 (leafmesh/leafmeshlaw10.Net).dist -/
theorem xLaw10Netdist (m : Mem) (n : Nat) (Q : Value → Mem → Nat → Prop) (x0 : Int) (x1_a : Option Addr) (x1_l : Nat) (x1_c : Nat) (x2_a : Option Addr) (x2_l : Nat) (x2_c : Nat) (from' : Int) :
 Xc Try.prog xcfg 400 fLaw10Netdist [Value.agg { toList := [Value.int IntKind.i64 x0, Value.slice x1_a x1_l x1_c, Value.slice x2_a x2_l x2_c] }, Value.int IntKind.i64 from'] m n Q =
 (memLet (Tr.set m n (AObj.cells none tLaw10Net 3 [Value.int IntKind.i64 x0, Value.slice x1_a x1_l x1_c, Value.slice x2_a x2_l x2_c])) fun (m0 : Mem) => isC m0 n = true ∧ ∃ (x1 : Int), rd m0 n 0 = some (Value.int IntKind.i64 x1) ∧ isC m0 n = true ∧ ∃ (p2 : Option Addr), ∃ (k3 : Nat), ∃ (k4 : Nat), rd m0 n 1 = some (Value.slice p2 k3 k4) ∧ isC m0 n = true ∧ ∃ (p5 : Option Addr), ∃ (k6 : Nat), ∃ (k7 : Nat), rd m0 n 2 = some (Value.slice p5 k6 k7) ∧ Wc Try.prog fSpfDist [Value.int IntKind.i64 x1, Value.slice p2 k3 k4, Value.slice p5 k6 k7, Value.int IntKind.i64 from'] m0 (n + 1) fun (v8 : Value) (m9 : Mem) (k10 : Nat) => ∃ (p11 : Option Addr), ∃ (k12 : Nat), ∃ (k13 : Nat), v8 = Value.slice p11 k12 k13 ∧ Later (Q (Value.slice p11 k12 k13) m9 k10)) := by kernel_rfl

/- 30 (leafmesh/leafmeshlaw10.Net).next -/
theorem xLaw10Netnext (m : Mem) (n : Nat) (Q : Value → Mem → Nat → Prop) (x0 : Int) (x1_a : Option Addr) (x1_l : Nat) (x1_c : Nat) (x2_a : Option Addr) (x2_l : Nat) (x2_c : Nat) (from' : Int) (to : Int) :
 Xc Try.prog xcfg 400 fLaw10Netnext [Value.agg { toList := [Value.int IntKind.i64 x0, Value.slice x1_a x1_l x1_c, Value.slice x2_a x2_l x2_c] }, Value.int IntKind.i64 from', Value.int IntKind.i64 to] m n Q =
 (memLet (Tr.set m n (AObj.cells none tLaw10Net 3 [Value.int IntKind.i64 x0, Value.slice x1_a x1_l x1_c, Value.slice x2_a x2_l x2_c])) fun (m0 : Mem) => isC m0 n = true ∧ ∃ (x1 : Int), rd m0 n 0 = some (Value.int IntKind.i64 x1) ∧ isC m0 n = true ∧ ∃ (p2 : Option Addr), ∃ (k3 : Nat), ∃ (k4 : Nat), rd m0 n 1 = some (Value.slice p2 k3 k4) ∧ isC m0 n = true ∧ ∃ (p5 : Option Addr), ∃ (k6 : Nat), ∃ (k7 : Nat), rd m0 n 2 = some (Value.slice p5 k6 k7) ∧ Wc Try.prog fSpfNext [Value.int IntKind.i64 x1, Value.slice p2 k3 k4, Value.slice p5 k6 k7, Value.int IntKind.i64 from', Value.int IntKind.i64 to] m0 (n + 1) fun (v8 : Value) (m9 : Mem) (k10 : Nat) => ∃ (p11 : Option Addr), ∃ (k12 : Nat), ∃ (k13 : Nat), v8 = Value.slice p11 k12 k13 ∧ Later (Q (Value.slice p11 k12 k13) m9 k10)) := by kernel_rfl

/- 31 (leafmesh/leafmeshlaw10.Net).paths -/
theorem xLaw10Netpaths (m : Mem) (n : Nat) (Q : Value → Mem → Nat → Prop) (x0 : Int) (x1_a : Option Addr) (x1_l : Nat) (x1_c : Nat) (x2_a : Option Addr) (x2_l : Nat) (x2_c : Nat) (from' : Int) (to : Int) :
 Xc Try.prog xcfg 400 fLaw10Netpaths [Value.agg { toList := [Value.int IntKind.i64 x0, Value.slice x1_a x1_l x1_c, Value.slice x2_a x2_l x2_c] }, Value.int IntKind.i64 from', Value.int IntKind.i64 to] m n Q =
 (memLet (Tr.set m n (AObj.cells none tLaw10Net 3 [Value.int IntKind.i64 x0, Value.slice x1_a x1_l x1_c, Value.slice x2_a x2_l x2_c])) fun (m0 : Mem) => isC m0 n = true ∧ ∃ (x1 : Int), rd m0 n 0 = some (Value.int IntKind.i64 x1) ∧ isC m0 n = true ∧ ∃ (p2 : Option Addr), ∃ (k3 : Nat), ∃ (k4 : Nat), rd m0 n 1 = some (Value.slice p2 k3 k4) ∧ isC m0 n = true ∧ ∃ (p5 : Option Addr), ∃ (k6 : Nat), ∃ (k7 : Nat), rd m0 n 2 = some (Value.slice p5 k6 k7) ∧ Wc Try.prog fSpfPaths [Value.int IntKind.i64 x1, Value.slice p2 k3 k4, Value.slice p5 k6 k7, Value.int IntKind.i64 from', Value.int IntKind.i64 to] m0 (n + 1) fun (v8 : Value) (m9 : Mem) (k10 : Nat) => ∃ (x11 : Int), v8 = Value.int IntKind.i64 x11 ∧ Later (Q (Value.int IntKind.i64 x11) m9 k10)) := by kernel_rfl

/- 32 (leafmesh/leafmeshlaw10.Net).parents -/
theorem xLaw10Netparents (m : Mem) (n : Nat) (Q : Value → Mem → Nat → Prop) (x0 : Int) (x1_a : Option Addr) (x1_l : Nat) (x1_c : Nat) (x2_a : Option Addr) (x2_l : Nat) (x2_c : Nat) (from' : Int) :
 Xc Try.prog xcfg 400 fLaw10Netparents [Value.agg { toList := [Value.int IntKind.i64 x0, Value.slice x1_a x1_l x1_c, Value.slice x2_a x2_l x2_c] }, Value.int IntKind.i64 from'] m n Q =
 (memLet (Tr.set m n (AObj.cells none tLaw10Net 3 [Value.int IntKind.i64 x0, Value.slice x1_a x1_l x1_c, Value.slice x2_a x2_l x2_c])) fun (m0 : Mem) => isC m0 n = true ∧ ∃ (x1 : Int), rd m0 n 0 = some (Value.int IntKind.i64 x1) ∧ isC m0 n = true ∧ ∃ (p2 : Option Addr), ∃ (k3 : Nat), ∃ (k4 : Nat), rd m0 n 1 = some (Value.slice p2 k3 k4) ∧ isC m0 n = true ∧ ∃ (p5 : Option Addr), ∃ (k6 : Nat), ∃ (k7 : Nat), rd m0 n 2 = some (Value.slice p5 k6 k7) ∧ Wc Try.prog fSpfParents [Value.int IntKind.i64 x1, Value.slice p2 k3 k4, Value.slice p5 k6 k7, Value.int IntKind.i64 from'] m0 (n + 1) fun (v8 : Value) (m9 : Mem) (k10 : Nat) => ∃ (p11 : Option Addr), ∃ (k12 : Nat), ∃ (k13 : Nat), v8 = Value.slice p11 k12 k13 ∧ Later (Q (Value.slice p11 k12 k13) m9 k10)) := by kernel_rfl

/- 33 (leafmesh/leafmeshlaw10.Net).path -/
theorem xLaw10Netpath (m : Mem) (n : Nat) (Q : Value → Mem → Nat → Prop) (x0 : Int) (x1_a : Option Addr) (x1_l : Nat) (x1_c : Nat) (x2_a : Option Addr) (x2_l : Nat) (x2_c : Nat) (from' : Int) (to : Int) :
 Xc Try.prog xcfg 400 fLaw10Netpath [Value.agg { toList := [Value.int IntKind.i64 x0, Value.slice x1_a x1_l x1_c, Value.slice x2_a x2_l x2_c] }, Value.int IntKind.i64 from', Value.int IntKind.i64 to] m n Q =
 (memLet (Tr.set m n (AObj.cells none tLaw10Net 3 [Value.int IntKind.i64 x0, Value.slice x1_a x1_l x1_c, Value.slice x2_a x2_l x2_c])) fun (m0 : Mem) => isC m0 n = true ∧ ∃ (x1 : Int), rd m0 n 0 = some (Value.int IntKind.i64 x1) ∧ isC m0 n = true ∧ ∃ (p2 : Option Addr), ∃ (k3 : Nat), ∃ (k4 : Nat), rd m0 n 1 = some (Value.slice p2 k3 k4) ∧ isC m0 n = true ∧ ∃ (p5 : Option Addr), ∃ (k6 : Nat), ∃ (k7 : Nat), rd m0 n 2 = some (Value.slice p5 k6 k7) ∧ Wc Try.prog fSpfPath [Value.int IntKind.i64 x1, Value.slice p2 k3 k4, Value.slice p5 k6 k7, Value.int IntKind.i64 from', Value.int IntKind.i64 to] m0 (n + 1) fun (v8 : Value) (m9 : Mem) (k10 : Nat) => ∃ (p11 : Option Addr), ∃ (k12 : Nat), ∃ (k13 : Nat), v8 = Value.slice p11 k12 k13 ∧ Later (Q (Value.slice p11 k12 k13) m9 k10)) := by kernel_rfl

/- 34 leafmesh/leafmeshlaw10.valid -/
theorem xLaw10valid (m : Mem) (n : Nat) (Q : Value → Mem → Nat → Prop) (x0 : Int) (x1_a : Option Addr) (x1_l : Nat) (x1_c : Nat) (x2_a : Option Addr) (x2_l : Nat) (x2_c : Nat) :
 Xc Try.prog xcfg 400 fLaw10valid [Value.agg { toList := [Value.int IntKind.i64 x0, Value.slice x1_a x1_l x1_c, Value.slice x2_a x2_l x2_c] }] m n Q =
 (memLet (Tr.set m n (AObj.cells none tLaw10Net 3 [Value.int IntKind.i64 x0, Value.slice x1_a x1_l x1_c, Value.slice x2_a x2_l x2_c])) fun (m0 : Mem) =>
 isC m0 n = true ∧
 ∃ (p1 : Option Addr),
 ∃ (k2 : Nat),
 ∃ (k3 : Nat),
 rd m0 n 1 = some (Value.slice p1 k2 k3) ∧
 bif decide ((↑k2 : Int) > 60) then Q (Value.bool false) m0 (n + 1) else isC m0 n = true ∧ ∃ (x4 : Int), rd m0 n 0 = some (Value.int IntKind.i64 x4) ∧ bif decide (x4 < 1) then Q (Value.bool false) m0 (n + 1) else isC m0 n = true ∧ ∃ (x5 : Int), rd m0 n 0 = some (Value.int IntKind.i64 x5) ∧ bif decide (x5 > 32) then Q (Value.bool false) m0 (n + 1) else isC m0 n = true ∧ ∃ (p6 : Option Addr), ∃ (k7 : Nat), ∃ (k8 : Nat), rd m0 n 2 = some (Value.slice p6 k7 k8) ∧ isC m0 n = true ∧ ∃ (p9 : Option Addr), ∃ (k10 : Nat), ∃ (k11 : Nat), rd m0 n 1 = some (Value.slice p9 k10 k11) ∧ bif (↑k7 : Int) != (↑k10 : Int) then Q (Value.bool false) m0 (n + 1) else W Try.prog { fn := fLaw10valid, nt := 79, slots := [(1, Value.pointer (some { block := n, off := 0 })), (3, Value.int IntKind.i64 0)], todo := pt Try.prog fLaw10valid [1, 1, 0, 1, 0, 0] } m0 (n + 1) Q) := by kernel_rfl

theorem xLaw10validk0 (m : Mem) (n : Nat) (Q : Value → Mem → Nat → Prop) (x : Nat) (i : Int) :
 xF (evX Try.prog xcfg 400) { fn := fLaw10valid, nt := 79, slots := [(1, Value.pointer (some { block := x, off := 0 })), (3, Value.int IntKind.i64 i)], todo := pt Try.prog fLaw10valid [1, 1, 0, 1, 0, 0] } m n Q =
 (isC m x = true ∧
 ∃ (p0 : Option Addr),
 ∃ (k1 : Nat),
 ∃ (k2 : Nat),
 rd m x 1 = some (Value.slice p0 k1 k2) ∧
 bif decide (i < (↑k1 : Int)) then
 isC m x = true ∧
 ∃ (p3 : Option Addr),
 ∃ (k4 : Nat),
 ∃ (k5 : Nat),
 rd m x 1 = some (Value.slice p3 k4 k5) ∧
 elimA p3 False fun (k6 k7 : Nat) (p8 : Option Nat) =>
 (0 ≤ i ∧ i < (↑k4 : Int) ∧ liveAt m k6 = true ∧ (p8 ≠ none → 0 < k5)) ∧
 ∃ (x9 : Int),
 ∃ (x10 : Int),
 ∃ (x11 : Int),
 rds m k6 (offOf k7 p8 + i.toNat * 3) 3 = some [Value.int IntKind.i64 x9, Value.int IntKind.i64 x10, Value.int IntKind.i64 x11] ∧
 memLet (Tr.set m n (AObj.cells none tApiLink 3 [Value.int IntKind.i64 0, Value.int IntKind.i64 0, Value.int IntKind.i64 0])) fun (m12 : Mem) =>
 ∃ (m13 : Mem),
 storeCs m12 n 0 [Value.int IntKind.i64 x9, Value.int IntKind.i64 x10, Value.int IntKind.i64 x11] = some m13 ∧
 isC m13 n = true ∧
 ∃ (x14 : Int),
 rd m13 n 0 = some (Value.int IntKind.i64 x14) ∧
 bif decide (x14 < 0) then Q (Value.bool false) m13 (n + 1)
 else
 isC m13 n = true ∧
 ∃ (x15 : Int),
 rd m13 n 0 = some (Value.int IntKind.i64 x15) ∧
 isC m13 x = true ∧
 ∃ (x16 : Int),
 rd m13 x 0 = some (Value.int IntKind.i64 x16) ∧
 bif decide (x15 ≥ x16) then Q (Value.bool false) m13 (n + 1)
 else
 isC m13 n = true ∧
 ∃ (x17 : Int),
 rd m13 n 1 = some (Value.int IntKind.i64 x17) ∧
 bif decide (x17 < 0) then Q (Value.bool false) m13 (n + 1)
 else
 isC m13 n = true ∧
 ∃ (x18 : Int),
 rd m13 n 1 = some (Value.int IntKind.i64 x18) ∧
 isC m13 x = true ∧
 ∃ (x19 : Int),
 rd m13 x 0 = some (Value.int IntKind.i64 x19) ∧
 bif decide (x18 ≥ x19) then Q (Value.bool false) m13 (n + 1) else isC m13 n = true ∧ ∃ (x20 : Int), rd m13 n 0 = some (Value.int IntKind.i64 x20) ∧ isC m13 n = true ∧ ∃ (x21 : Int), rd m13 n 1 = some (Value.int IntKind.i64 x21) ∧ bif x20 == x21 then Q (Value.bool false) m13 (n + 1) else isC m13 n = true ∧ ∃ (x22 : Int), rd m13 n 2 = some (Value.int IntKind.i64 x22) ∧ bif decide (x22 < 1) then Q (Value.bool false) m13 (n + 1) else isC m13 n = true ∧ ∃ (x23 : Int), rd m13 n 2 = some (Value.int IntKind.i64 x23) ∧ bif decide (x23 > 1000) then Q (Value.bool false) m13 (n + 1) else W Try.prog { fn := fLaw10valid, nt := 79, slots := [(1, Value.pointer (some { block := x, off := 0 })), (3, Value.int IntKind.i64 (IntKind.i64.wrap (i + 1)))], todo := pt Try.prog fLaw10valid [1, 1, 0, 1, 0, 0] } m13 (n + 1) Q
 else Q (Value.bool true) m n) := by kernel_rfl

/- 35 leafmesh/leafmeshkit.Pick -/
theorem xKitPick (m : Mem) (n : Nat) (Q : Value → Mem → Nat → Prop) (x : Int) (n' : Int) :
 Xc Try.prog xcfg 400 fKitPick [Value.int IntKind.i64 x, Value.int IntKind.i64 n'] m n Q =
 (n' ≠ 0 ∧ bif decide (x.tmod n' < 0) then Q (Value.int IntKind.i64 (IntKind.i64.wrap (x.tmod n' + n'))) m n else Q (Value.int IntKind.i64 (x.tmod n')) m n) := by kernel_rfl

/- 36 leafmesh/leafmeshlaw10.other -/
theorem xLaw10other (m : Mem) (n : Nat) (Q : Value → Mem → Nat → Prop) (l0 : Int) (l1 : Int) (l2 : Int) (n' : Int) :
 Xc Try.prog xcfg 400 fLaw10other [Value.agg { toList := [Value.int IntKind.i64 l0, Value.int IntKind.i64 l1, Value.int IntKind.i64 l2] }, Value.int IntKind.i64 n'] m n Q =
 (memLet (Tr.set m n (AObj.cells none tApiLink 3 [Value.int IntKind.i64 l0, Value.int IntKind.i64 l1, Value.int IntKind.i64 l2])) fun (m0 : Mem) => isC m0 n = true ∧ ∃ (x1 : Int), rd m0 n 0 = some (Value.int IntKind.i64 x1) ∧ bif x1 == n' then isC m0 n = true ∧ ∃ (x2 : Int), rd m0 n 1 = some (Value.int IntKind.i64 x2) ∧ Q (Value.int IntKind.i64 x2) m0 (n + 1) else isC m0 n = true ∧ ∃ (x3 : Int), rd m0 n 0 = some (Value.int IntKind.i64 x3) ∧ Q (Value.int IntKind.i64 x3) m0 (n + 1)) := by kernel_rfl

/- 37 leafmesh/spf.valid -/
theorem xSpfvalid (m : Mem) (n : Nat) (Q : Value → Mem → Nat → Prop) (nodes : Int) (links_a : Option Addr) (links_l : Nat) (links_c : Nat) (up_a : Option Addr) (up_l : Nat) (up_c : Nat) (ends_a : Option Addr) (ends_l : Nat) (ends_c : Nat) :
 Xc Try.prog xcfg 400 fSpfvalid [Value.int IntKind.i64 nodes, Value.slice links_a links_l links_c, Value.slice up_a up_l up_c, Value.slice ends_a ends_l ends_c] m n Q =
 (memLet (Tr.set m n (AObj.cells none tInt 1 [Value.int IntKind.i64 nodes])) fun (m0 : Mem) =>
 memLet (Tr.set m0 (n + 1) (AObj.cells none tFuncintbool 1 [Value.nilFunc])) fun (m1 : Mem) =>
 ∃ (m2 : Mem),
 storeCs m1 (n + 1) 0 [Value.func (Fn.func fSpfvalid1) { toList := [] } { toList := [Value.pointer (some { block := n, off := 0 })] }] = some m2 ∧
 ∃ (x3 : Int), rd m2 n 0 = some (Value.int IntKind.i64 x3) ∧ bif decide (x3 < 1) then Q (Value.bool false) m2 (n + 1 + 1) else ∃ (x4 : Int), rd m2 n 0 = some (Value.int IntKind.i64 x4) ∧ bif decide (x4 > 32) then Q (Value.bool false) m2 (n + 1 + 1) else bif decide ((↑links_l : Int) > 128) then Q (Value.bool false) m2 (n + 1 + 1) else bif (↑up_l : Int) != (↑links_l : Int) then Q (Value.bool false) m2 (n + 1 + 1) else W Try.prog { fn := fSpfvalid, nt := 71, slots := [(3, Value.slice ends_a ends_l ends_c), (9, Value.pointer (some { block := n + 1, off := 0 })), (31, Value.slice links_a links_l links_c), (32, Value.int IntKind.i64 (↑links_l : Int)), (33, Value.int IntKind.i64 0)], todo := pt Try.prog fSpfvalid [1, 1, 1, 0, 1, 0, 0] } m2 (n + 1 + 1) Q) := by kernel_rfl

theorem xSpfvalidk0 (m : Mem) (n : Nat) (Q : Value → Mem → Nat → Prop) (links_a : Option Addr) (links_l : Nat) (links_c : Nat) (ends_a : Option Addr) (ends_l : Nat) (ends_c : Nat) (within : Nat) (t32 : Int) (t33 : Int) :
 xF (evX Try.prog xcfg 400) { fn := fSpfvalid, nt := 71, slots := [(3, Value.slice ends_a ends_l ends_c), (9, Value.pointer (some { block := within, off := 0 })), (31, Value.slice links_a links_l links_c), (32, Value.int IntKind.i64 t32), (33, Value.int IntKind.i64 t33)], todo := pt Try.prog fSpfvalid [1, 1, 1, 0, 1, 0, 0] } m n Q =
 (bif decide (t33 < t32) then
 elimA links_a False fun (k0 k1 : Nat) (p2 : Option Nat) =>
 (0 ≤ t33 ∧ t33 < (↑links_l : Int) ∧ liveAt m k0 = true ∧ (p2 ≠ none → 0 < links_c)) ∧
 ∃ (x3 : Int),
 ∃ (x4 : Int),
 ∃ (x5 : Int),
 rds m k0 (offOf k1 p2 + t33.toNat * 3) 3 = some [Value.int IntKind.i64 x3, Value.int IntKind.i64 x4, Value.int IntKind.i64 x5] ∧
 memLet (Tr.set m n (AObj.cells none tApiLink 3 [Value.int IntKind.i64 0, Value.int IntKind.i64 0, Value.int IntKind.i64 0])) fun (m6 : Mem) =>
 ∃ (m7 : Mem),
 storeCs m6 n 0 [Value.int IntKind.i64 x3, Value.int IntKind.i64 x4, Value.int IntKind.i64 x5] = some m7 ∧
 ∃ (y8 : FuncId),
 ∃ (l9 : List Value),
 ∃ (l10 : List Value),
 rd m7 within 0 = some (Value.func (Fn.func y8) { toList := l9 } { toList := l10 }) ∧
 isC m7 n = true ∧
 ∃ (x11 : Int),
 rd m7 n 0 = some (Value.int IntKind.i64 x11) ∧
 Wc Try.prog y8 (l9 ++ [Value.int IntKind.i64 x11] ++ l10) m7 (n + 1) fun (v12 : Value) (m13 : Mem) (k14 : Nat) =>
 ∃ (b15 : Bool),
 v12 = Value.bool b15 ∧
 Later
 (bif !b15 then Q (Value.bool false) m13 k14
 else
 ∃ (y16 : FuncId),
 ∃ (l17 : List Value),
 ∃ (l18 : List Value),
 rd m13 within 0 = some (Value.func (Fn.func y16) { toList := l17 } { toList := l18 }) ∧
 isC m13 n = true ∧
 ∃ (x19 : Int),
 rd m13 n 1 = some (Value.int IntKind.i64 x19) ∧
 Wc Try.prog y16 (l17 ++ [Value.int IntKind.i64 x19] ++ l18) m13 k14 fun (v20 : Value) (m21 : Mem) (k22 : Nat) =>
 ∃ (b23 : Bool),
 v20 = Value.bool b23 ∧
 Later
 (bif !b23 then Q (Value.bool false) m21 k22
 else
 isC m21 n = true ∧
 ∃ (x24 : Int),
 rd m21 n 0 = some (Value.int IntKind.i64 x24) ∧ isC m21 n = true ∧ ∃ (x25 : Int), rd m21 n 1 = some (Value.int IntKind.i64 x25) ∧ bif x24 == x25 then Q (Value.bool false) m21 k22 else isC m21 n = true ∧ ∃ (x26 : Int), rd m21 n 2 = some (Value.int IntKind.i64 x26) ∧ bif decide (x26 < 1) then Q (Value.bool false) m21 k22 else isC m21 n = true ∧ ∃ (x27 : Int), rd m21 n 2 = some (Value.int IntKind.i64 x27) ∧ bif decide (x27 > 1000) then Q (Value.bool false) m21 k22 else W Try.prog { fn := fSpfvalid, nt := 71, slots := [(3, Value.slice ends_a ends_l ends_c), (9, Value.pointer (some { block := within, off := 0 })), (31, Value.slice links_a links_l links_c), (32, Value.int IntKind.i64 t32), (33, Value.int IntKind.i64 (IntKind.i64.wrap (t33 + 1)))], todo := pt Try.prog fSpfvalid [1, 1, 1, 0, 1, 0, 0] } m21 k22 Q))
 else Wc Try.prog fSlicesContainsFuncLintint [Value.slice ends_a ends_l ends_c, Value.func (Fn.func fSpfvalid2) { toList := [] } { toList := [Value.pointer (some { block := within, off := 0 })] }] m n fun (v28 : Value) (m29 : Mem) (k30 : Nat) => ∃ (b31 : Bool), v28 = Value.bool b31 ∧ Later (Q (Value.bool !b31) m29 k30)) := by kernel_rfl

/- 38 slices.Repeat[[]int,int] -/
theorem xSlicesRepeatLintint (m : Mem) (n : Nat) (Q : Value → Mem → Nat → Prop) (x_a : Option Addr) (x_l : Nat) (x_c : Nat) (count : Int) :
 Xc Try.prog xcfg 400 fSlicesRepeatLintint [Value.slice x_a x_l x_c, Value.int IntKind.i64 count] m n Q =
 (bif decide (count < 0) then False else W Try.prog { fn := fSlicesRepeatLintint, nt := 48, slots := [(0, Value.slice x_a x_l x_c), (1, Value.int IntKind.i64 count)], todo := pt Try.prog fSlicesRepeatLintint [1, 1, 0] } m n Q) := by kernel_rfl

theorem xSlicesRepeatLintintk0 (m : Mem) (n : Nat) (Q : Value → Mem → Nat → Prop) (x_a : Option Addr) (x_l : Nat) (x_c : Nat) (count : Int) :
 xF (ev1 Try.prog xcfg 400) { fn := fSlicesRepeatLintint, nt := 48, slots := [(0, Value.slice x_a x_l x_c), (1, Value.int IntKind.i64 count)], todo := pt Try.prog fSlicesRepeatLintint [1, 1, 0] } m n Q =
 (Wc Try.prog fMathbitsMul [Value.int IntKind.u64 (IntKind.u64.wrap (↑x_l : Int)), Value.int IntKind.u64 (IntKind.u64.wrap count)] m n fun (v0 : Value) (m1 : Mem) (k2 : Nat) => ∃ (x3 : Int), ∃ (x4 : Int), v0 = Value.tuple { toList := [Value.int IntKind.u64 x3, Value.int IntKind.u64 x4] } ∧ Later (bif decide (x3 > 0) then False else bif decide (x4 > 9223372036854775807) then False else W Try.prog { fn := fSlicesRepeatLintint, nt := 48, slots := [(0, Value.slice x_a x_l x_c), (6, Value.int IntKind.u64 x4)], todo := pt Try.prog fSlicesRepeatLintint [1, 1, 1, 1, 0] } m1 k2 Q)) := by kernel_rfl

theorem xSlicesRepeatLintintk1 (m : Mem) (n : Nat) (Q : Value → Mem → Nat → Prop) (x_a : Option Addr) (x_l : Nat) (x_c : Nat) (lo : Int) :
 xF (ev1 Try.prog xcfg 400) { fn := fSlicesRepeatLintint, nt := 48, slots := [(0, Value.slice x_a x_l x_c), (6, Value.int IntKind.u64 lo)], todo := pt Try.prog fSlicesRepeatLintint [1, 1, 1, 1, 0] } m n Q =
 ((0 ≤ IntKind.i64.wrap lo ∧ IntKind.i64.wrap lo ≤ IntKind.i64.wrap lo ∧ 9 * IntKind.i64.wrap lo ≤ 281474976710656) ∧ memLet (Tr.set m n (AObj.cells none tInt 1 (List.replicate (IntKind.i64.wrap lo).toNat [Value.int IntKind.i64 0]).flatten)) fun (m0 : Mem) => ∃ (x1 : Int), ∃ (m2 : Mem), copyV Try.prog m0 (n + 1) tLint (some { block := n, off := 0 }) (IntKind.i64.wrap lo).toNat (IntKind.i64.wrap lo).toNat x_a x_l x_c = Eff.val (Value.int IntKind.i64 x1) m2 (n + 1) ∧ W Try.prog { fn := fSlicesRepeatLintint, nt := 48, slots := [(7, Value.slice (some { block := n, off := 0 }) (IntKind.i64.wrap lo).toNat (IntKind.i64.wrap lo).toNat), (8, Value.int IntKind.i64 x1)], todo := pt Try.prog fSlicesRepeatLintint [1, 1, 1, 1, 1, 1, 0, 0, 0] } m2 (n + 1) Q) := by kernel_rfl

theorem xSlicesRepeatLintintk2 (m : Mem) (n : Nat) (Q : Value → Mem → Nat → Prop) (newslice_a : Option Addr) (newslice_l : Nat) (newslice_c : Nat) (n' : Int) :
 xF (evX Try.prog xcfg 400) { fn := fSlicesRepeatLintint, nt := 48, slots := [(7, Value.slice newslice_a newslice_l newslice_c), (8, Value.int IntKind.i64 n')], todo := pt Try.prog fSlicesRepeatLintint [1, 1, 1, 1, 1, 1, 0, 0, 0] } m n Q =
 (bif decide (n' < (↑newslice_l : Int)) then
 elimA newslice_a
 ((0 ≤ n' ∧ n' ≤ (↑newslice_l : Int)) ∧
 elimA newslice_a ((0 ≤ n' ∧ n' ≤ (↑newslice_c : Int)) ∧ ∃ (x0 : Int), ∃ (m1 : Mem), copyV Try.prog m (n + 10) tLint none (newslice_l - n'.toNat) (newslice_c - n'.toNat) none (n'.toNat - 0) (newslice_c - 0) = Eff.val (Value.int IntKind.i64 x0) m1 (n + 10) ∧ n + 10 ≤ n + 10 ∧ W Try.prog { fn := fSlicesRepeatLintint, nt := 48, slots := [(7, Value.slice newslice_a newslice_l newslice_c), (8, Value.int IntKind.i64 (IntKind.i64.wrap (n' + x0)))], todo := pt Try.prog fSlicesRepeatLintint [1, 1, 1, 1, 1, 1, 0, 0, 0] } m1 (n + 10) Q) fun (k2 k3 : Nat) (p4 : Option Nat) =>
 (0 ≤ n' ∧ n' ≤ (↑newslice_c : Int)) ∧
 elimM p4 (∃ (x5 : Int), ∃ (m6 : Mem), copyV Try.prog m (n + 10) tLint none (newslice_l - n'.toNat) (newslice_c - n'.toNat) (some { block := k2, off := if newslice_c = 0 then k3 else k3 + 0 }) (n'.toNat - 0) (newslice_c - 0) = Eff.val (Value.int IntKind.i64 x5) m6 (n + 10) ∧ n + 10 ≤ n + 10 ∧ W Try.prog { fn := fSlicesRepeatLintint, nt := 48, slots := [(7, Value.slice newslice_a newslice_l newslice_c), (8, Value.int IntKind.i64 (IntKind.i64.wrap (n' + x5)))], todo := pt Try.prog fSlicesRepeatLintint [1, 1, 1, 1, 1, 1, 0, 0, 0] } m6 (n + 10) Q) fun (k7 : Nat) =>
 (0 ≤ newslice_c ∧ 0 < newslice_c) ∧ ∃ (x8 : Int), ∃ (m9 : Mem), copyV Try.prog m (n + 10) tLint none (newslice_l - n'.toNat) (newslice_c - n'.toNat) (some { block := k2, off := if newslice_c = 0 then k7 else k7 + 0, spot := some (k7 + 0) }) (n'.toNat - 0) (newslice_c - 0) = Eff.val (Value.int IntKind.i64 x8) m9 (n + 10) ∧ n + 10 ≤ n + 10 ∧ W Try.prog { fn := fSlicesRepeatLintint, nt := 48, slots := [(7, Value.slice newslice_a newslice_l newslice_c), (8, Value.int IntKind.i64 (IntKind.i64.wrap (n' + x8)))], todo := pt Try.prog fSlicesRepeatLintint [1, 1, 1, 1, 1, 1, 0, 0, 0] } m9 (n + 10) Q)
 fun (k10 k11 : Nat) (p12 : Option Nat) =>
 (0 ≤ n' ∧ n' ≤ (↑newslice_l : Int)) ∧
 elimM p12
 (elimA newslice_a ((0 ≤ n' ∧ n' ≤ (↑newslice_c : Int)) ∧ ∃ (x13 : Int), ∃ (m14 : Mem), copyV Try.prog m (n + 10) tLint (some { block := k10, off := if newslice_c = n'.toNat then k11 else k11 + n'.toNat * 1 }) (newslice_l - n'.toNat) (newslice_c - n'.toNat) none (n'.toNat - 0) (newslice_c - 0) = Eff.val (Value.int IntKind.i64 x13) m14 (n + 10) ∧ n + 10 ≤ n + 10 ∧ W Try.prog { fn := fSlicesRepeatLintint, nt := 48, slots := [(7, Value.slice newslice_a newslice_l newslice_c), (8, Value.int IntKind.i64 (IntKind.i64.wrap (n' + x13)))], todo := pt Try.prog fSlicesRepeatLintint [1, 1, 1, 1, 1, 1, 0, 0, 0] } m14 (n + 10) Q) fun (k15 k16 : Nat) (p17 : Option Nat) =>
 (0 ≤ n' ∧ n' ≤ (↑newslice_c : Int)) ∧
 elimM p17 (∃ (x18 : Int), ∃ (m19 : Mem), copyV Try.prog m (n + 10) tLint (some { block := k10, off := if newslice_c = n'.toNat then k11 else k11 + n'.toNat * 1 }) (newslice_l - n'.toNat) (newslice_c - n'.toNat) (some { block := k15, off := if newslice_c = 0 then k16 else k16 + 0 }) (n'.toNat - 0) (newslice_c - 0) = Eff.val (Value.int IntKind.i64 x18) m19 (n + 10) ∧ n + 10 ≤ n + 10 ∧ W Try.prog { fn := fSlicesRepeatLintint, nt := 48, slots := [(7, Value.slice newslice_a newslice_l newslice_c), (8, Value.int IntKind.i64 (IntKind.i64.wrap (n' + x18)))], todo := pt Try.prog fSlicesRepeatLintint [1, 1, 1, 1, 1, 1, 0, 0, 0] } m19 (n + 10) Q) fun (k20 : Nat) =>
 (0 ≤ newslice_c ∧ 0 < newslice_c) ∧ ∃ (x21 : Int), ∃ (m22 : Mem), copyV Try.prog m (n + 10) tLint (some { block := k10, off := if newslice_c = n'.toNat then k11 else k11 + n'.toNat * 1 }) (newslice_l - n'.toNat) (newslice_c - n'.toNat) (some { block := k15, off := if newslice_c = 0 then k20 else k20 + 0, spot := some (k20 + 0) }) (n'.toNat - 0) (newslice_c - 0) = Eff.val (Value.int IntKind.i64 x21) m22 (n + 10) ∧ n + 10 ≤ n + 10 ∧ W Try.prog { fn := fSlicesRepeatLintint, nt := 48, slots := [(7, Value.slice newslice_a newslice_l newslice_c), (8, Value.int IntKind.i64 (IntKind.i64.wrap (n' + x21)))], todo := pt Try.prog fSlicesRepeatLintint [1, 1, 1, 1, 1, 1, 0, 0, 0] } m22 (n + 10) Q)
 fun (k23 : Nat) =>
 (n'.toNat ≤ newslice_c ∧ 0 < newslice_c) ∧
 elimA newslice_a ((0 ≤ n' ∧ n' ≤ (↑newslice_c : Int)) ∧ ∃ (x24 : Int), ∃ (m25 : Mem), copyV Try.prog m (n + 10) tLint (some { block := k10, off := if newslice_c = n'.toNat then k23 else k23 + n'.toNat * 1, spot := some (k23 + n'.toNat * 1) }) (newslice_l - n'.toNat) (newslice_c - n'.toNat) none (n'.toNat - 0) (newslice_c - 0) = Eff.val (Value.int IntKind.i64 x24) m25 (n + 10) ∧ n + 10 ≤ n + 10 ∧ W Try.prog { fn := fSlicesRepeatLintint, nt := 48, slots := [(7, Value.slice newslice_a newslice_l newslice_c), (8, Value.int IntKind.i64 (IntKind.i64.wrap (n' + x24)))], todo := pt Try.prog fSlicesRepeatLintint [1, 1, 1, 1, 1, 1, 0, 0, 0] } m25 (n + 10) Q) fun (k26 k27 : Nat) (p28 : Option Nat) =>
 (0 ≤ n' ∧ n' ≤ (↑newslice_c : Int)) ∧
 elimM p28 (∃ (x29 : Int), ∃ (m30 : Mem), copyV Try.prog m (n + 10) tLint (some { block := k10, off := if newslice_c = n'.toNat then k23 else k23 + n'.toNat * 1, spot := some (k23 + n'.toNat * 1) }) (newslice_l - n'.toNat) (newslice_c - n'.toNat) (some { block := k26, off := if newslice_c = 0 then k27 else k27 + 0 }) (n'.toNat - 0) (newslice_c - 0) = Eff.val (Value.int IntKind.i64 x29) m30 (n + 10) ∧ n + 10 ≤ n + 10 ∧ W Try.prog { fn := fSlicesRepeatLintint, nt := 48, slots := [(7, Value.slice newslice_a newslice_l newslice_c), (8, Value.int IntKind.i64 (IntKind.i64.wrap (n' + x29)))], todo := pt Try.prog fSlicesRepeatLintint [1, 1, 1, 1, 1, 1, 0, 0, 0] } m30 (n + 10) Q) fun (k31 : Nat) =>
 (0 ≤ newslice_c ∧ 0 < newslice_c) ∧ ∃ (x32 : Int), ∃ (m33 : Mem), copyV Try.prog m (n + 10) tLint (some { block := k10, off := if newslice_c = n'.toNat then k23 else k23 + n'.toNat * 1, spot := some (k23 + n'.toNat * 1) }) (newslice_l - n'.toNat) (newslice_c - n'.toNat) (some { block := k26, off := if newslice_c = 0 then k31 else k31 + 0, spot := some (k31 + 0) }) (n'.toNat - 0) (newslice_c - 0) = Eff.val (Value.int IntKind.i64 x32) m33 (n + 10) ∧ n + 10 ≤ n + 10 ∧ W Try.prog { fn := fSlicesRepeatLintint, nt := 48, slots := [(7, Value.slice newslice_a newslice_l newslice_c), (8, Value.int IntKind.i64 (IntKind.i64.wrap (n' + x32)))], todo := pt Try.prog fSlicesRepeatLintint [1, 1, 1, 1, 1, 1, 0, 0, 0] } m33 (n + 10) Q
 else Q (Value.slice newslice_a newslice_l newslice_c) m n) := by kernel_rfl

/- 39 (leafmesh/spf.queue).Len -/
theorem xSpfqueueLen (m : Mem) (n : Nat) (Q : Value → Mem → Nat → Prop) (q_a : Option Addr) (q_l : Nat) (q_c : Nat) :
 Xc Try.prog xcfg 400 fSpfqueueLen [Value.slice q_a q_l q_c] m n Q =
 (Q (Value.int IntKind.i64 (↑q_l : Int)) m n) := by kernel_rfl


end Go.Proofs.Ytenpbdanffacjaa
