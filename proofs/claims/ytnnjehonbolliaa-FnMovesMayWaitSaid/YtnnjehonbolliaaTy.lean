/- Facts on the types of the translation, for simp. Written by program (tyfacts.py). -/
import Derived.Test.YtnnjehonbolliaaProg
import Derived.Test.YtnnjehonbolliaaEngY
import Derived.KernelRfl
namespace Go.Proofs.Ytnnjehonbolliaa
open Go Go.Eng

@[simp] theorem ty_fnOK_2 : fnOK Try.prog 2 = true := by kernel_rfl
@[simp] theorem ty_fnOK_3 : fnOK Try.prog 3 = true := by kernel_rfl
@[simp] theorem ty_fnOK_4 : fnOK Try.prog 4 = true := by kernel_rfl
@[simp] theorem ty_fnOK_5 : fnOK Try.prog 5 = true := by kernel_rfl
@[simp] theorem ty_fnOK_6 : fnOK Try.prog 6 = true := by kernel_rfl
@[simp] theorem ty_fnOK_7 : fnOK Try.prog 7 = true := by kernel_rfl
@[simp] theorem ty_fnOK_8 : fnOK Try.prog 8 = true := by kernel_rfl
@[simp] theorem ty_fnOK_9 : fnOK Try.prog 9 = true := by kernel_rfl
@[simp] theorem ty_fnOK_10 : fnOK Try.prog 10 = true := by kernel_rfl
@[simp] theorem ty_fnOK_11 : fnOK Try.prog 11 = true := by kernel_rfl
@[simp] theorem ty_fnOK_12 : fnOK Try.prog 12 = true := by kernel_rfl
@[simp] theorem ty_fnOK_13 : fnOK Try.prog 13 = true := by kernel_rfl
@[simp] theorem ty_fnOK_14 : fnOK Try.prog 14 = true := by kernel_rfl
@[simp] theorem ty_fnOK_15 : fnOK Try.prog 15 = true := by kernel_rfl
@[simp] theorem ty_fnOK_16 : fnOK Try.prog 16 = true := by kernel_rfl
@[simp] theorem ty_fnOK_17 : fnOK Try.prog 17 = true := by kernel_rfl
@[simp] theorem ty_fnOK_18 : fnOK Try.prog 18 = true := by kernel_rfl
@[simp] theorem ty_fnOK_19 : fnOK Try.prog 19 = true := by kernel_rfl
@[simp] theorem ty_fnOK_20 : fnOK Try.prog 20 = true := by kernel_rfl
@[simp] theorem ty_fnOK_21 : fnOK Try.prog 21 = true := by kernel_rfl
@[simp] theorem ty_fnOK_22 : fnOK Try.prog 22 = true := by kernel_rfl
@[simp] theorem ty_fnOK_23 : fnOK Try.prog 23 = true := by kernel_rfl
@[simp] theorem ty_fnOK_24 : fnOK Try.prog 24 = true := by kernel_rfl
@[simp] theorem ty_fnOK_25 : fnOK Try.prog 25 = true := by kernel_rfl
@[simp] theorem ty_fnOK_26 : fnOK Try.prog 26 = true := by kernel_rfl
@[simp] theorem ty_fnOK_27 : fnOK Try.prog 27 = true := by kernel_rfl
@[simp] theorem ty_fnOK_28 : fnOK Try.prog 28 = true := by kernel_rfl
@[simp] theorem ty_fnOK_29 : fnOK Try.prog 29 = true := by kernel_rfl
@[simp] theorem ty_fnOK_30 : fnOK Try.prog 30 = true := by kernel_rfl
@[simp] theorem ty_fnOK_31 : fnOK Try.prog 31 = true := by kernel_rfl
@[simp] theorem ty_fnOK_32 : fnOK Try.prog 32 = true := by kernel_rfl
@[simp] theorem ty_fnOK_33 : fnOK Try.prog 33 = true := by kernel_rfl
@[simp] theorem ty_fnOK_34 : fnOK Try.prog 34 = true := by kernel_rfl
@[simp] theorem ty_fnOK_35 : fnOK Try.prog 35 = true := by kernel_rfl
@[simp] theorem ty_fnOK_36 : fnOK Try.prog 36 = true := by kernel_rfl
@[simp] theorem ty_fnOK_37 : fnOK Try.prog 37 = true := by kernel_rfl
@[simp] theorem ty_fnOK_38 : fnOK Try.prog 38 = true := by kernel_rfl
@[simp] theorem ty_fnOK_39 : fnOK Try.prog 39 = true := by kernel_rfl
@[simp] theorem ty_fnOK_40 : fnOK Try.prog 40 = true := by kernel_rfl
@[simp] theorem ty_fnOK_41 : fnOK Try.prog 41 = true := by kernel_rfl
@[simp] theorem ty_fnOK_42 : fnOK Try.prog 42 = true := by kernel_rfl
@[simp] theorem ty_fnOK_43 : fnOK Try.prog 43 = true := by kernel_rfl
@[simp] theorem ty_fnOK_44 : fnOK Try.prog 44 = true := by kernel_rfl
@[simp] theorem ty_fnOK_45 : fnOK Try.prog 45 = true := by kernel_rfl
@[simp] theorem ty_fnOK_46 : fnOK Try.prog 46 = true := by kernel_rfl
@[simp] theorem ty_fnOK_47 : fnOK Try.prog 47 = true := by kernel_rfl
@[simp] theorem ty_fnOK_48 : fnOK Try.prog 48 = true := by kernel_rfl
@[simp] theorem ty_fnOK_49 : fnOK Try.prog 49 = true := by kernel_rfl
@[simp] theorem ty_fnOK_50 : fnOK Try.prog 50 = true := by kernel_rfl
@[simp] theorem ty_fnOK_51 : fnOK Try.prog 51 = true := by kernel_rfl
@[simp] theorem ty_fnOK_52 : fnOK Try.prog 52 = true := by kernel_rfl
@[simp] theorem ty_fnOK_53 : fnOK Try.prog 53 = true := by kernel_rfl
@[simp] theorem ty_fnOK_54 : fnOK Try.prog 54 = true := by kernel_rfl
@[simp] theorem ty_fnOK_55 : fnOK Try.prog 55 = true := by kernel_rfl
@[simp] theorem ty_fnOK_56 : fnOK Try.prog 56 = true := by kernel_rfl
@[simp] theorem ty_fnOK_57 : fnOK Try.prog 57 = true := by kernel_rfl
@[simp] theorem ty_fnOK_58 : fnOK Try.prog 58 = true := by kernel_rfl
@[simp] theorem ty_fnOK_59 : fnOK Try.prog 59 = true := by kernel_rfl
@[simp] theorem ty_fnOK_60 : fnOK Try.prog 60 = true := by kernel_rfl
@[simp] theorem ty_fnOK_61 : fnOK Try.prog 61 = true := by kernel_rfl
@[simp] theorem ty_fnOK_62 : fnOK Try.prog 62 = true := by kernel_rfl
@[simp] theorem ty_fnOK_63 : fnOK Try.prog 63 = true := by kernel_rfl
@[simp] theorem ty_fnOK_64 : fnOK Try.prog 64 = true := by kernel_rfl
@[simp] theorem ty_fnOK_65 : fnOK Try.prog 65 = true := by kernel_rfl
@[simp] theorem ty_fnOK_66 : fnOK Try.prog 66 = true := by kernel_rfl
@[simp] theorem ty_fnOK_67 : fnOK Try.prog 67 = true := by kernel_rfl
@[simp] theorem ty_fnOK_68 : fnOK Try.prog 68 = true := by kernel_rfl
@[simp] theorem ty_fnOK_69 : fnOK Try.prog 69 = true := by kernel_rfl
@[simp] theorem ty_fnOK_70 : fnOK Try.prog 70 = true := by kernel_rfl
@[simp] theorem ty_fnOK_71 : fnOK Try.prog 71 = true := by kernel_rfl
@[simp] theorem ty_fnOK_72 : fnOK Try.prog 72 = true := by kernel_rfl
@[simp] theorem ty_fnOK_73 : fnOK Try.prog 73 = true := by kernel_rfl
@[simp] theorem ty_fnOK_74 : fnOK Try.prog 74 = true := by kernel_rfl
@[simp] theorem ty_fnOK_75 : fnOK Try.prog 75 = true := by kernel_rfl
@[simp] theorem ty_fnOK_76 : fnOK Try.prog 76 = true := by kernel_rfl
@[simp] theorem ty_fnOK_77 : fnOK Try.prog 77 = true := by kernel_rfl
@[simp] theorem ty_fnOK_78 : fnOK Try.prog 78 = true := by kernel_rfl
@[simp] theorem ty_fnOK_79 : fnOK Try.prog 79 = true := by kernel_rfl
@[simp] theorem ty_fnOK_80 : fnOK Try.prog 80 = true := by kernel_rfl
@[simp] theorem ty_fnOK_81 : fnOK Try.prog 81 = true := by kernel_rfl
@[simp] theorem ty_fnOK_82 : fnOK Try.prog 82 = true := by kernel_rfl
@[simp] theorem ty_fnOK_83 : fnOK Try.prog 83 = true := by kernel_rfl
@[simp] theorem ty_fnOK_84 : fnOK Try.prog 84 = true := by kernel_rfl
@[simp] theorem ty_fnOK_85 : fnOK Try.prog 85 = true := by kernel_rfl
@[simp] theorem ty_fnOK_86 : fnOK Try.prog 86 = true := by kernel_rfl
@[simp] theorem ty_fnOK_87 : fnOK Try.prog 87 = true := by kernel_rfl
@[simp] theorem ty_fnOK_88 : fnOK Try.prog 88 = true := by kernel_rfl
@[simp] theorem ty_fnOK_89 : fnOK Try.prog 89 = true := by kernel_rfl
@[simp] theorem ty_fnOK_90 : fnOK Try.prog 90 = true := by kernel_rfl
@[simp] theorem ty_fnOK_91 : fnOK Try.prog 91 = true := by kernel_rfl
@[simp] theorem ty_fnOK_92 : fnOK Try.prog 92 = true := by kernel_rfl
@[simp] theorem ty_fnOK_93 : fnOK Try.prog 93 = true := by kernel_rfl
@[simp] theorem ty_fnOK_94 : fnOK Try.prog 94 = true := by kernel_rfl
@[simp] theorem ty_fnOK_95 : fnOK Try.prog 95 = true := by kernel_rfl
@[simp] theorem ty_fnOK_96 : fnOK Try.prog 96 = true := by kernel_rfl
@[simp] theorem ty_fnOK_97 : fnOK Try.prog 97 = true := by kernel_rfl
@[simp] theorem ty_fnOK_98 : fnOK Try.prog 98 = true := by kernel_rfl
@[simp] theorem ty_fnOK_99 : fnOK Try.prog 99 = true := by kernel_rfl
@[simp] theorem ty_fnOK_100 : fnOK Try.prog 100 = true := by kernel_rfl
@[simp] theorem ty_fnOK_101 : fnOK Try.prog 101 = true := by kernel_rfl
@[simp] theorem ty_fnOK_102 : fnOK Try.prog 102 = true := by kernel_rfl
@[simp] theorem ty_fnOK_103 : fnOK Try.prog 103 = true := by kernel_rfl
@[simp] theorem ty_fnOK_104 : fnOK Try.prog 104 = true := by kernel_rfl
@[simp] theorem ty_aggT_0 : aggT Try.prog 0 = some false := by kernel_rfl
@[simp] theorem ty_szT_0 : szT Try.prog 0 = some 1 := by kernel_rfl
@[simp] theorem ty_zeroT_0 : zeroT Try.prog 0 = some (Go.Value.tuple #[]) := by kernel_rfl
@[simp] theorem ty_byT_0 : byT Try.prog 0 = some 0 := by kernel_rfl
@[simp] theorem ty_aggT_1 : aggT Try.prog 1 = some false := by kernel_rfl
@[simp] theorem ty_szT_1 : szT Try.prog 1 = some 1 := by kernel_rfl
@[simp] theorem ty_zeroT_1 : zeroT Try.prog 1 = some Go.Value.nilFunc := by kernel_rfl
@[simp] theorem ty_byT_1 : byT Try.prog 1 = some 8 := by kernel_rfl
@[simp] theorem ty_aggT_2 : aggT Try.prog 2 = some false := by kernel_rfl
@[simp] theorem ty_szT_2 : szT Try.prog 2 = some 1 := by kernel_rfl
@[simp] theorem ty_zeroT_2 : zeroT Try.prog 2 = some (Go.Value.int Go.IntKind.i64 0) := by kernel_rfl
@[simp] theorem ty_byT_2 : byT Try.prog 2 = some 8 := by kernel_rfl
@[simp] theorem ty_inT_2 : inT Try.prog 2 = some Go.IntKind.i64 := by kernel_rfl
@[simp] theorem ty_aggT_3 : aggT Try.prog 3 = some false := by kernel_rfl
@[simp] theorem ty_szT_3 : szT Try.prog 3 = some 1 := by kernel_rfl
@[simp] theorem ty_zeroT_3 : zeroT Try.prog 3 = some (Go.Value.int Go.IntKind.i64 0) := by kernel_rfl
@[simp] theorem ty_byT_3 : byT Try.prog 3 = some 8 := by kernel_rfl
@[simp] theorem ty_inT_3 : inT Try.prog 3 = some Go.IntKind.i64 := by kernel_rfl
@[simp] theorem ty_aggT_4 : aggT Try.prog 4 = some false := by kernel_rfl
@[simp] theorem ty_szT_4 : szT Try.prog 4 = some 1 := by kernel_rfl
@[simp] theorem ty_zeroT_4 : zeroT Try.prog 4 = some (Go.Value.bool false) := by kernel_rfl
@[simp] theorem ty_byT_4 : byT Try.prog 4 = some 1 := by kernel_rfl
@[simp] theorem ty_aggT_5 : aggT Try.prog 5 = some false := by kernel_rfl
@[simp] theorem ty_szT_5 : szT Try.prog 5 = some 1 := by kernel_rfl
@[simp] theorem ty_zeroT_5 : zeroT Try.prog 5 = some (Go.Value.int Go.IntKind.u8 0) := by kernel_rfl
@[simp] theorem ty_byT_5 : byT Try.prog 5 = some 1 := by kernel_rfl
@[simp] theorem ty_inT_5 : inT Try.prog 5 = some Go.IntKind.u8 := by kernel_rfl
@[simp] theorem ty_aggT_6 : aggT Try.prog 6 = some false := by kernel_rfl
@[simp] theorem ty_szT_6 : szT Try.prog 6 = some 1 := by kernel_rfl
@[simp] theorem ty_zeroT_6 : zeroT Try.prog 6 = some (Go.Value.int Go.IntKind.u8 0) := by kernel_rfl
@[simp] theorem ty_byT_6 : byT Try.prog 6 = some 1 := by kernel_rfl
@[simp] theorem ty_inT_6 : inT Try.prog 6 = some Go.IntKind.u8 := by kernel_rfl
@[simp] theorem ty_aggT_7 : aggT Try.prog 7 = some true := by kernel_rfl
@[simp] theorem ty_szT_7 : szT Try.prog 7 = some 4 := by kernel_rfl
@[simp] theorem ty_zeroT_7 : zeroT Try.prog 7 = some (Go.Value.agg #[Go.Value.int Go.IntKind.i64 0, Go.Value.int Go.IntKind.i64 0, Go.Value.bool false, Go.Value.int Go.IntKind.u8 0]) := by kernel_rfl
@[simp] theorem ty_byT_7 : byT Try.prog 7 = some 24 := by kernel_rfl
@[simp] theorem ty_placesT_7 : placesT Try.prog 7 = some #[(0, 1), (1, 1), (2, 1), (3, 1)] := by kernel_rfl
@[simp] theorem ty_fldT_7_0 : fldT Try.prog 7 0 = some (0, 1, false) := by kernel_rfl
@[simp] theorem ty_fldT_7_1 : fldT Try.prog 7 1 = some (1, 1, false) := by kernel_rfl
@[simp] theorem ty_fldT_7_2 : fldT Try.prog 7 2 = some (2, 1, false) := by kernel_rfl
@[simp] theorem ty_fldT_7_3 : fldT Try.prog 7 3 = some (3, 1, false) := by kernel_rfl
@[simp] theorem ty_aggT_8 : aggT Try.prog 8 = some true := by kernel_rfl
@[simp] theorem ty_szT_8 : szT Try.prog 8 = some 4 := by kernel_rfl
@[simp] theorem ty_zeroT_8 : zeroT Try.prog 8 = some (Go.Value.agg #[Go.Value.int Go.IntKind.i64 0, Go.Value.int Go.IntKind.i64 0, Go.Value.bool false, Go.Value.int Go.IntKind.u8 0]) := by kernel_rfl
@[simp] theorem ty_byT_8 : byT Try.prog 8 = some 24 := by kernel_rfl
@[simp] theorem ty_placesT_8 : placesT Try.prog 8 = some #[(0, 1), (1, 1), (2, 1), (3, 1)] := by kernel_rfl
@[simp] theorem ty_fldT_8_0 : fldT Try.prog 8 0 = some (0, 1, false) := by kernel_rfl
@[simp] theorem ty_fldT_8_1 : fldT Try.prog 8 1 = some (1, 1, false) := by kernel_rfl
@[simp] theorem ty_fldT_8_2 : fldT Try.prog 8 2 = some (2, 1, false) := by kernel_rfl
@[simp] theorem ty_fldT_8_3 : fldT Try.prog 8 3 = some (3, 1, false) := by kernel_rfl
@[simp] theorem ty_aggT_9 : aggT Try.prog 9 = some false := by kernel_rfl
@[simp] theorem ty_szT_9 : szT Try.prog 9 = some 1 := by kernel_rfl
@[simp] theorem ty_zeroT_9 : zeroT Try.prog 9 = some (Go.Value.string { data := #[] }) := by kernel_rfl
@[simp] theorem ty_byT_9 : byT Try.prog 9 = some 16 := by kernel_rfl
@[simp] theorem ty_srcT_9 : srcT Try.prog 9 = true := by kernel_rfl
@[simp] theorem ty_aggT_10 : aggT Try.prog 10 = some false := by kernel_rfl
@[simp] theorem ty_szT_10 : szT Try.prog 10 = some 1 := by kernel_rfl
@[simp] theorem ty_zeroT_10 : zeroT Try.prog 10 = some (Go.Value.string { data := #[] }) := by kernel_rfl
@[simp] theorem ty_byT_10 : byT Try.prog 10 = some 16 := by kernel_rfl
@[simp] theorem ty_srcT_10 : srcT Try.prog 10 = true := by kernel_rfl
@[simp] theorem ty_aggT_11 : aggT Try.prog 11 = some false := by kernel_rfl
@[simp] theorem ty_szT_11 : szT Try.prog 11 = some 1 := by kernel_rfl
@[simp] theorem ty_zeroT_11 : zeroT Try.prog 11 = some (Go.Value.string { data := #[] }) := by kernel_rfl
@[simp] theorem ty_byT_11 : byT Try.prog 11 = some 16 := by kernel_rfl
@[simp] theorem ty_srcT_11 : srcT Try.prog 11 = true := by kernel_rfl
@[simp] theorem ty_aggT_12 : aggT Try.prog 12 = some false := by kernel_rfl
@[simp] theorem ty_szT_12 : szT Try.prog 12 = some 1 := by kernel_rfl
@[simp] theorem ty_zeroT_12 : zeroT Try.prog 12 = some (Go.Value.int Go.IntKind.u64 0) := by kernel_rfl
@[simp] theorem ty_byT_12 : byT Try.prog 12 = some 8 := by kernel_rfl
@[simp] theorem ty_inT_12 : inT Try.prog 12 = some Go.IntKind.u64 := by kernel_rfl
@[simp] theorem ty_aggT_13 : aggT Try.prog 13 = some true := by kernel_rfl
@[simp] theorem ty_szT_13 : szT Try.prog 13 = some 2 := by kernel_rfl
@[simp] theorem ty_byT_13 : byT Try.prog 13 = some 24 := by kernel_rfl
@[simp] theorem ty_placesT_13 : placesT Try.prog 13 = some #[(0, 1), (1, 1)] := by kernel_rfl
@[simp] theorem ty_fldT_13_0 : fldT Try.prog 13 0 = some (0, 1, false) := by kernel_rfl
@[simp] theorem ty_fldT_13_1 : fldT Try.prog 13 1 = some (1, 1, false) := by kernel_rfl
@[simp] theorem ty_aggT_14 : aggT Try.prog 14 = some true := by kernel_rfl
@[simp] theorem ty_szT_14 : szT Try.prog 14 = some 2 := by kernel_rfl
@[simp] theorem ty_byT_14 : byT Try.prog 14 = some 24 := by kernel_rfl
@[simp] theorem ty_placesT_14 : placesT Try.prog 14 = some #[(0, 1), (1, 1)] := by kernel_rfl
@[simp] theorem ty_fldT_14_0 : fldT Try.prog 14 0 = some (0, 1, false) := by kernel_rfl
@[simp] theorem ty_fldT_14_1 : fldT Try.prog 14 1 = some (1, 1, false) := by kernel_rfl
@[simp] theorem ty_aggT_15 : aggT Try.prog 15 = some false := by kernel_rfl
@[simp] theorem ty_szT_15 : szT Try.prog 15 = some 1 := by kernel_rfl
@[simp] theorem ty_zeroT_15 : zeroT Try.prog 15 = some (Go.Value.pointer none) := by kernel_rfl
@[simp] theorem ty_byT_15 : byT Try.prog 15 = some 8 := by kernel_rfl
@[simp] theorem ty_aggT_16 : aggT Try.prog 16 = some false := by kernel_rfl
@[simp] theorem ty_szT_16 : szT Try.prog 16 = some 1 := by kernel_rfl
@[simp] theorem ty_zeroT_16 : zeroT Try.prog 16 = some (Go.Value.pointer none) := by kernel_rfl
@[simp] theorem ty_byT_16 : byT Try.prog 16 = some 8 := by kernel_rfl
@[simp] theorem ty_aggT_17 : aggT Try.prog 17 = some false := by kernel_rfl
@[simp] theorem ty_szT_17 : szT Try.prog 17 = some 1 := by kernel_rfl
@[simp] theorem ty_zeroT_17 : zeroT Try.prog 17 = some (Go.Value.pointer none) := by kernel_rfl
@[simp] theorem ty_byT_17 : byT Try.prog 17 = some 8 := by kernel_rfl
@[simp] theorem ty_aggT_18 : aggT Try.prog 18 = some true := by kernel_rfl
@[simp] theorem ty_szT_18 : szT Try.prog 18 = some 1 := by kernel_rfl
@[simp] theorem ty_zeroT_18 : zeroT Try.prog 18 = some (Go.Value.agg #[Go.Value.pointer none]) := by kernel_rfl
@[simp] theorem ty_byT_18 : byT Try.prog 18 = some 8 := by kernel_rfl
@[simp] theorem ty_placesT_18 : placesT Try.prog 18 = some #[(0, 1)] := by kernel_rfl
@[simp] theorem ty_fldT_18_0 : fldT Try.prog 18 0 = some (0, 1, false) := by kernel_rfl
@[simp] theorem ty_aggT_19 : aggT Try.prog 19 = some true := by kernel_rfl
@[simp] theorem ty_szT_19 : szT Try.prog 19 = some 1 := by kernel_rfl
@[simp] theorem ty_zeroT_19 : zeroT Try.prog 19 = some (Go.Value.agg #[Go.Value.pointer none]) := by kernel_rfl
@[simp] theorem ty_byT_19 : byT Try.prog 19 = some 8 := by kernel_rfl
@[simp] theorem ty_placesT_19 : placesT Try.prog 19 = some #[(0, 1)] := by kernel_rfl
@[simp] theorem ty_fldT_19_0 : fldT Try.prog 19 0 = some (0, 1, false) := by kernel_rfl
@[simp] theorem ty_aggT_20 : aggT Try.prog 20 = some false := by kernel_rfl
@[simp] theorem ty_szT_20 : szT Try.prog 20 = some 1 := by kernel_rfl
@[simp] theorem ty_zeroT_20 : zeroT Try.prog 20 = some Go.Value.nilIface := by kernel_rfl
@[simp] theorem ty_byT_20 : byT Try.prog 20 = some 16 := by kernel_rfl
@[simp] theorem ty_aggT_21 : aggT Try.prog 21 = some false := by kernel_rfl
@[simp] theorem ty_szT_21 : szT Try.prog 21 = some 1 := by kernel_rfl
@[simp] theorem ty_zeroT_21 : zeroT Try.prog 21 = some (Go.Value.int Go.IntKind.i32 0) := by kernel_rfl
@[simp] theorem ty_byT_21 : byT Try.prog 21 = some 4 := by kernel_rfl
@[simp] theorem ty_inT_21 : inT Try.prog 21 = some Go.IntKind.i32 := by kernel_rfl
@[simp] theorem ty_aggT_22 : aggT Try.prog 22 = some false := by kernel_rfl
@[simp] theorem ty_szT_22 : szT Try.prog 22 = some 1 := by kernel_rfl
@[simp] theorem ty_zeroT_22 : zeroT Try.prog 22 = some (Go.Value.slice none 0 0) := by kernel_rfl
@[simp] theorem ty_byT_22 : byT Try.prog 22 = some 24 := by kernel_rfl
@[simp] theorem ty_elT_22 : elT Try.prog 22 = some 5 := by kernel_rfl
@[simp] theorem ty_srcT_22 : srcT Try.prog 22 = true := by kernel_rfl
@[simp] theorem ty_aggT_23 : aggT Try.prog 23 = some false := by kernel_rfl
@[simp] theorem ty_szT_23 : szT Try.prog 23 = some 1 := by kernel_rfl
@[simp] theorem ty_zeroT_23 : zeroT Try.prog 23 = some Go.Value.nilFunc := by kernel_rfl
@[simp] theorem ty_byT_23 : byT Try.prog 23 = some 8 := by kernel_rfl
@[simp] theorem ty_aggT_24 : aggT Try.prog 24 = some false := by kernel_rfl
@[simp] theorem ty_szT_24 : szT Try.prog 24 = some 1 := by kernel_rfl
@[simp] theorem ty_zeroT_24 : zeroT Try.prog 24 = some (Go.Value.slice none 0 0) := by kernel_rfl
@[simp] theorem ty_byT_24 : byT Try.prog 24 = some 24 := by kernel_rfl
@[simp] theorem ty_elT_24 : elT Try.prog 24 = some 25 := by kernel_rfl
@[simp] theorem ty_srcT_24 : srcT Try.prog 24 = true := by kernel_rfl
@[simp] theorem ty_aggT_25 : aggT Try.prog 25 = some false := by kernel_rfl
@[simp] theorem ty_szT_25 : szT Try.prog 25 = some 1 := by kernel_rfl
@[simp] theorem ty_zeroT_25 : zeroT Try.prog 25 = some (Go.Value.slice none 0 0) := by kernel_rfl
@[simp] theorem ty_byT_25 : byT Try.prog 25 = some 24 := by kernel_rfl
@[simp] theorem ty_elT_25 : elT Try.prog 25 = some 3 := by kernel_rfl
@[simp] theorem ty_srcT_25 : srcT Try.prog 25 = true := by kernel_rfl
@[simp] theorem ty_aggT_26 : aggT Try.prog 26 = some true := by kernel_rfl
@[simp] theorem ty_szT_26 : szT Try.prog 26 = some 2 := by kernel_rfl
@[simp] theorem ty_zeroT_26 : zeroT Try.prog 26 = some (Go.Value.agg #[Go.Value.slice none 0 0, Go.Value.slice none 0 0]) := by kernel_rfl
@[simp] theorem ty_byT_26 : byT Try.prog 26 = some 48 := by kernel_rfl
@[simp] theorem ty_placesT_26 : placesT Try.prog 26 = some #[(0, 1), (1, 1)] := by kernel_rfl
@[simp] theorem ty_fldT_26_0 : fldT Try.prog 26 0 = some (0, 1, false) := by kernel_rfl
@[simp] theorem ty_fldT_26_1 : fldT Try.prog 26 1 = some (1, 1, false) := by kernel_rfl
@[simp] theorem ty_aggT_27 : aggT Try.prog 27 = some true := by kernel_rfl
@[simp] theorem ty_szT_27 : szT Try.prog 27 = some 2 := by kernel_rfl
@[simp] theorem ty_zeroT_27 : zeroT Try.prog 27 = some (Go.Value.agg #[Go.Value.slice none 0 0, Go.Value.slice none 0 0]) := by kernel_rfl
@[simp] theorem ty_byT_27 : byT Try.prog 27 = some 48 := by kernel_rfl
@[simp] theorem ty_placesT_27 : placesT Try.prog 27 = some #[(0, 1), (1, 1)] := by kernel_rfl
@[simp] theorem ty_fldT_27_0 : fldT Try.prog 27 0 = some (0, 1, false) := by kernel_rfl
@[simp] theorem ty_fldT_27_1 : fldT Try.prog 27 1 = some (1, 1, false) := by kernel_rfl
@[simp] theorem ty_aggT_28 : aggT Try.prog 28 = some false := by kernel_rfl
@[simp] theorem ty_szT_28 : szT Try.prog 28 = some 1 := by kernel_rfl
@[simp] theorem ty_byT_28 : byT Try.prog 28 = some 0 := by kernel_rfl
@[simp] theorem ty_aggT_29 : aggT Try.prog 29 = some false := by kernel_rfl
@[simp] theorem ty_szT_29 : szT Try.prog 29 = some 1 := by kernel_rfl
@[simp] theorem ty_zeroT_29 : zeroT Try.prog 29 = some Go.Value.nilFunc := by kernel_rfl
@[simp] theorem ty_byT_29 : byT Try.prog 29 = some 8 := by kernel_rfl
@[simp] theorem ty_aggT_30 : aggT Try.prog 30 = some false := by kernel_rfl
@[simp] theorem ty_szT_30 : szT Try.prog 30 = some 1 := by kernel_rfl
@[simp] theorem ty_zeroT_30 : zeroT Try.prog 30 = some (Go.Value.tuple #[Go.Value.slice none 0 0, Go.Value.bool false]) := by kernel_rfl
@[simp] theorem ty_byT_30 : byT Try.prog 30 = some 0 := by kernel_rfl
@[simp] theorem ty_aggT_31 : aggT Try.prog 31 = some false := by kernel_rfl
@[simp] theorem ty_szT_31 : szT Try.prog 31 = some 1 := by kernel_rfl
@[simp] theorem ty_zeroT_31 : zeroT Try.prog 31 = some Go.Value.nilFunc := by kernel_rfl
@[simp] theorem ty_byT_31 : byT Try.prog 31 = some 8 := by kernel_rfl
@[simp] theorem ty_aggT_32 : aggT Try.prog 32 = some false := by kernel_rfl
@[simp] theorem ty_szT_32 : szT Try.prog 32 = some 1 := by kernel_rfl
@[simp] theorem ty_zeroT_32 : zeroT Try.prog 32 = some Go.Value.nilFunc := by kernel_rfl
@[simp] theorem ty_byT_32 : byT Try.prog 32 = some 8 := by kernel_rfl
@[simp] theorem ty_aggT_33 : aggT Try.prog 33 = some false := by kernel_rfl
@[simp] theorem ty_szT_33 : szT Try.prog 33 = some 1 := by kernel_rfl
@[simp] theorem ty_byT_33 : byT Try.prog 33 = some 0 := by kernel_rfl
@[simp] theorem ty_aggT_34 : aggT Try.prog 34 = some false := by kernel_rfl
@[simp] theorem ty_szT_34 : szT Try.prog 34 = some 1 := by kernel_rfl
@[simp] theorem ty_zeroT_34 : zeroT Try.prog 34 = some Go.Value.nilFunc := by kernel_rfl
@[simp] theorem ty_byT_34 : byT Try.prog 34 = some 8 := by kernel_rfl
@[simp] theorem ty_aggT_35 : aggT Try.prog 35 = some false := by kernel_rfl
@[simp] theorem ty_szT_35 : szT Try.prog 35 = some 1 := by kernel_rfl
@[simp] theorem ty_zeroT_35 : zeroT Try.prog 35 = some (Go.Value.tuple #[Go.Value.bool false, Go.Value.bool false]) := by kernel_rfl
@[simp] theorem ty_byT_35 : byT Try.prog 35 = some 0 := by kernel_rfl
@[simp] theorem ty_aggT_36 : aggT Try.prog 36 = some false := by kernel_rfl
@[simp] theorem ty_szT_36 : szT Try.prog 36 = some 1 := by kernel_rfl
@[simp] theorem ty_zeroT_36 : zeroT Try.prog 36 = some Go.Value.nilFunc := by kernel_rfl
@[simp] theorem ty_byT_36 : byT Try.prog 36 = some 8 := by kernel_rfl
@[simp] theorem ty_aggT_37 : aggT Try.prog 37 = some false := by kernel_rfl
@[simp] theorem ty_szT_37 : szT Try.prog 37 = some 1 := by kernel_rfl
@[simp] theorem ty_zeroT_37 : zeroT Try.prog 37 = some Go.Value.nilFunc := by kernel_rfl
@[simp] theorem ty_byT_37 : byT Try.prog 37 = some 8 := by kernel_rfl
@[simp] theorem ty_aggT_38 : aggT Try.prog 38 = some false := by kernel_rfl
@[simp] theorem ty_szT_38 : szT Try.prog 38 = some 1 := by kernel_rfl
@[simp] theorem ty_zeroT_38 : zeroT Try.prog 38 = some Go.Value.nilFunc := by kernel_rfl
@[simp] theorem ty_byT_38 : byT Try.prog 38 = some 8 := by kernel_rfl
@[simp] theorem ty_aggT_39 : aggT Try.prog 39 = some false := by kernel_rfl
@[simp] theorem ty_szT_39 : szT Try.prog 39 = some 1 := by kernel_rfl
@[simp] theorem ty_zeroT_39 : zeroT Try.prog 39 = some Go.Value.nilFunc := by kernel_rfl
@[simp] theorem ty_byT_39 : byT Try.prog 39 = some 8 := by kernel_rfl
@[simp] theorem ty_aggT_40 : aggT Try.prog 40 = some false := by kernel_rfl
@[simp] theorem ty_szT_40 : szT Try.prog 40 = some 1 := by kernel_rfl
@[simp] theorem ty_zeroT_40 : zeroT Try.prog 40 = some Go.Value.nilFunc := by kernel_rfl
@[simp] theorem ty_byT_40 : byT Try.prog 40 = some 8 := by kernel_rfl
@[simp] theorem ty_aggT_41 : aggT Try.prog 41 = some false := by kernel_rfl
@[simp] theorem ty_szT_41 : szT Try.prog 41 = some 1 := by kernel_rfl
@[simp] theorem ty_zeroT_41 : zeroT Try.prog 41 = some Go.Value.nilFunc := by kernel_rfl
@[simp] theorem ty_byT_41 : byT Try.prog 41 = some 8 := by kernel_rfl
@[simp] theorem ty_aggT_42 : aggT Try.prog 42 = some false := by kernel_rfl
@[simp] theorem ty_szT_42 : szT Try.prog 42 = some 1 := by kernel_rfl
@[simp] theorem ty_zeroT_42 : zeroT Try.prog 42 = some Go.Value.nilFunc := by kernel_rfl
@[simp] theorem ty_byT_42 : byT Try.prog 42 = some 8 := by kernel_rfl
@[simp] theorem ty_aggT_43 : aggT Try.prog 43 = some false := by kernel_rfl
@[simp] theorem ty_szT_43 : szT Try.prog 43 = some 1 := by kernel_rfl
@[simp] theorem ty_byT_43 : byT Try.prog 43 = some 0 := by kernel_rfl
@[simp] theorem ty_aggT_44 : aggT Try.prog 44 = some false := by kernel_rfl
@[simp] theorem ty_szT_44 : szT Try.prog 44 = some 1 := by kernel_rfl
@[simp] theorem ty_zeroT_44 : zeroT Try.prog 44 = some Go.Value.nilFunc := by kernel_rfl
@[simp] theorem ty_byT_44 : byT Try.prog 44 = some 8 := by kernel_rfl
@[simp] theorem ty_aggT_45 : aggT Try.prog 45 = some false := by kernel_rfl
@[simp] theorem ty_szT_45 : szT Try.prog 45 = some 1 := by kernel_rfl
@[simp] theorem ty_zeroT_45 : zeroT Try.prog 45 = some Go.Value.nilFunc := by kernel_rfl
@[simp] theorem ty_byT_45 : byT Try.prog 45 = some 8 := by kernel_rfl
@[simp] theorem ty_aggT_46 : aggT Try.prog 46 = some false := by kernel_rfl
@[simp] theorem ty_szT_46 : szT Try.prog 46 = some 1 := by kernel_rfl
@[simp] theorem ty_zeroT_46 : zeroT Try.prog 46 = some Go.Value.nilFunc := by kernel_rfl
@[simp] theorem ty_byT_46 : byT Try.prog 46 = some 8 := by kernel_rfl
@[simp] theorem ty_aggT_47 : aggT Try.prog 47 = some true := by kernel_rfl
@[simp] theorem ty_szT_47 : szT Try.prog 47 = some 2 := by kernel_rfl
@[simp] theorem ty_zeroT_47 : zeroT Try.prog 47 = some (Go.Value.agg #[Go.Value.int Go.IntKind.i64 0, Go.Value.slice none 0 0]) := by kernel_rfl
@[simp] theorem ty_byT_47 : byT Try.prog 47 = some 32 := by kernel_rfl
@[simp] theorem ty_placesT_47 : placesT Try.prog 47 = some #[(0, 1), (1, 1)] := by kernel_rfl
@[simp] theorem ty_fldT_47_0 : fldT Try.prog 47 0 = some (0, 1, false) := by kernel_rfl
@[simp] theorem ty_fldT_47_1 : fldT Try.prog 47 1 = some (1, 1, false) := by kernel_rfl
@[simp] theorem ty_aggT_48 : aggT Try.prog 48 = some true := by kernel_rfl
@[simp] theorem ty_szT_48 : szT Try.prog 48 = some 2 := by kernel_rfl
@[simp] theorem ty_zeroT_48 : zeroT Try.prog 48 = some (Go.Value.agg #[Go.Value.int Go.IntKind.i64 0, Go.Value.slice none 0 0]) := by kernel_rfl
@[simp] theorem ty_byT_48 : byT Try.prog 48 = some 32 := by kernel_rfl
@[simp] theorem ty_placesT_48 : placesT Try.prog 48 = some #[(0, 1), (1, 1)] := by kernel_rfl
@[simp] theorem ty_fldT_48_0 : fldT Try.prog 48 0 = some (0, 1, false) := by kernel_rfl
@[simp] theorem ty_fldT_48_1 : fldT Try.prog 48 1 = some (1, 1, false) := by kernel_rfl
@[simp] theorem ty_aggT_49 : aggT Try.prog 49 = some false := by kernel_rfl
@[simp] theorem ty_szT_49 : szT Try.prog 49 = some 1 := by kernel_rfl
@[simp] theorem ty_byT_49 : byT Try.prog 49 = some 0 := by kernel_rfl
@[simp] theorem ty_aggT_50 : aggT Try.prog 50 = some false := by kernel_rfl
@[simp] theorem ty_szT_50 : szT Try.prog 50 = some 1 := by kernel_rfl
@[simp] theorem ty_zeroT_50 : zeroT Try.prog 50 = some Go.Value.nilFunc := by kernel_rfl
@[simp] theorem ty_byT_50 : byT Try.prog 50 = some 8 := by kernel_rfl
@[simp] theorem ty_aggT_51 : aggT Try.prog 51 = some false := by kernel_rfl
@[simp] theorem ty_szT_51 : szT Try.prog 51 = some 1 := by kernel_rfl
@[simp] theorem ty_zeroT_51 : zeroT Try.prog 51 = some (Go.Value.tuple #[Go.Value.int Go.IntKind.i64 0, Go.Value.bool false]) := by kernel_rfl
@[simp] theorem ty_byT_51 : byT Try.prog 51 = some 0 := by kernel_rfl
@[simp] theorem ty_aggT_52 : aggT Try.prog 52 = some false := by kernel_rfl
@[simp] theorem ty_szT_52 : szT Try.prog 52 = some 1 := by kernel_rfl
@[simp] theorem ty_zeroT_52 : zeroT Try.prog 52 = some Go.Value.nilFunc := by kernel_rfl
@[simp] theorem ty_byT_52 : byT Try.prog 52 = some 8 := by kernel_rfl
@[simp] theorem ty_aggT_53 : aggT Try.prog 53 = some false := by kernel_rfl
@[simp] theorem ty_szT_53 : szT Try.prog 53 = some 1 := by kernel_rfl
@[simp] theorem ty_zeroT_53 : zeroT Try.prog 53 = some Go.Value.nilFunc := by kernel_rfl
@[simp] theorem ty_byT_53 : byT Try.prog 53 = some 8 := by kernel_rfl
@[simp] theorem ty_aggT_54 : aggT Try.prog 54 = some false := by kernel_rfl
@[simp] theorem ty_szT_54 : szT Try.prog 54 = some 1 := by kernel_rfl
@[simp] theorem ty_zeroT_54 : zeroT Try.prog 54 = some Go.Value.nilFunc := by kernel_rfl
@[simp] theorem ty_byT_54 : byT Try.prog 54 = some 8 := by kernel_rfl
@[simp] theorem ty_aggT_55 : aggT Try.prog 55 = some false := by kernel_rfl
@[simp] theorem ty_szT_55 : szT Try.prog 55 = some 1 := by kernel_rfl
@[simp] theorem ty_zeroT_55 : zeroT Try.prog 55 = some Go.Value.nilFunc := by kernel_rfl
@[simp] theorem ty_byT_55 : byT Try.prog 55 = some 8 := by kernel_rfl
@[simp] theorem ty_aggT_56 : aggT Try.prog 56 = some false := by kernel_rfl
@[simp] theorem ty_szT_56 : szT Try.prog 56 = some 1 := by kernel_rfl
@[simp] theorem ty_zeroT_56 : zeroT Try.prog 56 = some Go.Value.nilFunc := by kernel_rfl
@[simp] theorem ty_byT_56 : byT Try.prog 56 = some 8 := by kernel_rfl
@[simp] theorem ty_aggT_57 : aggT Try.prog 57 = some false := by kernel_rfl
@[simp] theorem ty_szT_57 : szT Try.prog 57 = some 1 := by kernel_rfl
@[simp] theorem ty_zeroT_57 : zeroT Try.prog 57 = some (Go.Value.pointer none) := by kernel_rfl
@[simp] theorem ty_byT_57 : byT Try.prog 57 = some 8 := by kernel_rfl
@[simp] theorem ty_aggT_58 : aggT Try.prog 58 = some false := by kernel_rfl
@[simp] theorem ty_szT_58 : szT Try.prog 58 = some 1 := by kernel_rfl
@[simp] theorem ty_zeroT_58 : zeroT Try.prog 58 = some (Go.Value.int Go.IntKind.u64 0) := by kernel_rfl
@[simp] theorem ty_byT_58 : byT Try.prog 58 = some 8 := by kernel_rfl
@[simp] theorem ty_inT_58 : inT Try.prog 58 = some Go.IntKind.u64 := by kernel_rfl
@[simp] theorem ty_aggT_59 : aggT Try.prog 59 = some true := by kernel_rfl
@[simp] theorem ty_szT_59 : szT Try.prog 59 = some 3 := by kernel_rfl
@[simp] theorem ty_zeroT_59 : zeroT Try.prog 59 = some (Go.Value.agg #[Go.Value.slice none 0 0, Go.Value.int Go.IntKind.i64 0, Go.Value.int Go.IntKind.u64 0]) := by kernel_rfl
@[simp] theorem ty_byT_59 : byT Try.prog 59 = some 40 := by kernel_rfl
@[simp] theorem ty_placesT_59 : placesT Try.prog 59 = some #[(0, 1), (1, 1), (2, 1)] := by kernel_rfl
@[simp] theorem ty_fldT_59_0 : fldT Try.prog 59 0 = some (0, 1, false) := by kernel_rfl
@[simp] theorem ty_fldT_59_1 : fldT Try.prog 59 1 = some (1, 1, false) := by kernel_rfl
@[simp] theorem ty_fldT_59_2 : fldT Try.prog 59 2 = some (2, 1, false) := by kernel_rfl
@[simp] theorem ty_aggT_60 : aggT Try.prog 60 = some true := by kernel_rfl
@[simp] theorem ty_szT_60 : szT Try.prog 60 = some 3 := by kernel_rfl
@[simp] theorem ty_zeroT_60 : zeroT Try.prog 60 = some (Go.Value.agg #[Go.Value.slice none 0 0, Go.Value.int Go.IntKind.i64 0, Go.Value.int Go.IntKind.u64 0]) := by kernel_rfl
@[simp] theorem ty_byT_60 : byT Try.prog 60 = some 40 := by kernel_rfl
@[simp] theorem ty_placesT_60 : placesT Try.prog 60 = some #[(0, 1), (1, 1), (2, 1)] := by kernel_rfl
@[simp] theorem ty_fldT_60_0 : fldT Try.prog 60 0 = some (0, 1, false) := by kernel_rfl
@[simp] theorem ty_fldT_60_1 : fldT Try.prog 60 1 = some (1, 1, false) := by kernel_rfl
@[simp] theorem ty_fldT_60_2 : fldT Try.prog 60 2 = some (2, 1, false) := by kernel_rfl
@[simp] theorem ty_aggT_61 : aggT Try.prog 61 = some false := by kernel_rfl
@[simp] theorem ty_szT_61 : szT Try.prog 61 = some 1 := by kernel_rfl
@[simp] theorem ty_zeroT_61 : zeroT Try.prog 61 = some Go.Value.nilFunc := by kernel_rfl
@[simp] theorem ty_byT_61 : byT Try.prog 61 = some 8 := by kernel_rfl
@[simp] theorem ty_aggT_62 : aggT Try.prog 62 = some false := by kernel_rfl
@[simp] theorem ty_szT_62 : szT Try.prog 62 = some 1 := by kernel_rfl
@[simp] theorem ty_zeroT_62 : zeroT Try.prog 62 = some Go.Value.nilFunc := by kernel_rfl
@[simp] theorem ty_byT_62 : byT Try.prog 62 = some 8 := by kernel_rfl
@[simp] theorem ty_aggT_63 : aggT Try.prog 63 = some false := by kernel_rfl
@[simp] theorem ty_szT_63 : szT Try.prog 63 = some 1 := by kernel_rfl
@[simp] theorem ty_zeroT_63 : zeroT Try.prog 63 = some Go.Value.nilFunc := by kernel_rfl
@[simp] theorem ty_byT_63 : byT Try.prog 63 = some 8 := by kernel_rfl
@[simp] theorem ty_aggT_64 : aggT Try.prog 64 = some false := by kernel_rfl
@[simp] theorem ty_szT_64 : szT Try.prog 64 = some 1 := by kernel_rfl
@[simp] theorem ty_byT_64 : byT Try.prog 64 = some 0 := by kernel_rfl
@[simp] theorem ty_aggT_65 : aggT Try.prog 65 = some false := by kernel_rfl
@[simp] theorem ty_szT_65 : szT Try.prog 65 = some 1 := by kernel_rfl
@[simp] theorem ty_zeroT_65 : zeroT Try.prog 65 = some Go.Value.nilFunc := by kernel_rfl
@[simp] theorem ty_byT_65 : byT Try.prog 65 = some 8 := by kernel_rfl
@[simp] theorem ty_aggT_66 : aggT Try.prog 66 = some false := by kernel_rfl
@[simp] theorem ty_szT_66 : szT Try.prog 66 = some 1 := by kernel_rfl
@[simp] theorem ty_zeroT_66 : zeroT Try.prog 66 = some (Go.Value.tuple #[Go.Value.slice none 0 0, Go.Value.slice none 0 0, Go.Value.bool false]) := by kernel_rfl
@[simp] theorem ty_byT_66 : byT Try.prog 66 = some 0 := by kernel_rfl
@[simp] theorem ty_aggT_67 : aggT Try.prog 67 = some false := by kernel_rfl
@[simp] theorem ty_szT_67 : szT Try.prog 67 = some 1 := by kernel_rfl
@[simp] theorem ty_zeroT_67 : zeroT Try.prog 67 = some Go.Value.nilFunc := by kernel_rfl
@[simp] theorem ty_byT_67 : byT Try.prog 67 = some 8 := by kernel_rfl
@[simp] theorem ty_aggT_68 : aggT Try.prog 68 = some false := by kernel_rfl
@[simp] theorem ty_szT_68 : szT Try.prog 68 = some 1 := by kernel_rfl
@[simp] theorem ty_zeroT_68 : zeroT Try.prog 68 = some Go.Value.nilFunc := by kernel_rfl
@[simp] theorem ty_byT_68 : byT Try.prog 68 = some 8 := by kernel_rfl
@[simp] theorem ty_aggT_69 : aggT Try.prog 69 = some false := by kernel_rfl
@[simp] theorem ty_szT_69 : szT Try.prog 69 = some 1 := by kernel_rfl
@[simp] theorem ty_zeroT_69 : zeroT Try.prog 69 = some Go.Value.nilFunc := by kernel_rfl
@[simp] theorem ty_byT_69 : byT Try.prog 69 = some 8 := by kernel_rfl
@[simp] theorem ty_aggT_70 : aggT Try.prog 70 = some false := by kernel_rfl
@[simp] theorem ty_szT_70 : szT Try.prog 70 = some 1 := by kernel_rfl
@[simp] theorem ty_zeroT_70 : zeroT Try.prog 70 = some Go.Value.nilFunc := by kernel_rfl
@[simp] theorem ty_byT_70 : byT Try.prog 70 = some 8 := by kernel_rfl
@[simp] theorem ty_aggT_71 : aggT Try.prog 71 = some false := by kernel_rfl
@[simp] theorem ty_szT_71 : szT Try.prog 71 = some 1 := by kernel_rfl
@[simp] theorem ty_zeroT_71 : zeroT Try.prog 71 = some Go.Value.nilFunc := by kernel_rfl
@[simp] theorem ty_byT_71 : byT Try.prog 71 = some 8 := by kernel_rfl
@[simp] theorem ty_aggT_72 : aggT Try.prog 72 = some false := by kernel_rfl
@[simp] theorem ty_szT_72 : szT Try.prog 72 = some 1 := by kernel_rfl
@[simp] theorem ty_zeroT_72 : zeroT Try.prog 72 = some Go.Value.nilFunc := by kernel_rfl
@[simp] theorem ty_byT_72 : byT Try.prog 72 = some 8 := by kernel_rfl
@[simp] theorem ty_aggT_73 : aggT Try.prog 73 = some false := by kernel_rfl
@[simp] theorem ty_szT_73 : szT Try.prog 73 = some 1 := by kernel_rfl
@[simp] theorem ty_zeroT_73 : zeroT Try.prog 73 = some Go.Value.nilFunc := by kernel_rfl
@[simp] theorem ty_byT_73 : byT Try.prog 73 = some 8 := by kernel_rfl
@[simp] theorem ty_aggT_74 : aggT Try.prog 74 = some false := by kernel_rfl
@[simp] theorem ty_szT_74 : szT Try.prog 74 = some 1 := by kernel_rfl
@[simp] theorem ty_zeroT_74 : zeroT Try.prog 74 = some Go.Value.nilFunc := by kernel_rfl
@[simp] theorem ty_byT_74 : byT Try.prog 74 = some 8 := by kernel_rfl
@[simp] theorem ty_aggT_75 : aggT Try.prog 75 = some false := by kernel_rfl
@[simp] theorem ty_szT_75 : szT Try.prog 75 = some 1 := by kernel_rfl
@[simp] theorem ty_zeroT_75 : zeroT Try.prog 75 = some Go.Value.nilFunc := by kernel_rfl
@[simp] theorem ty_byT_75 : byT Try.prog 75 = some 8 := by kernel_rfl
@[simp] theorem ty_aggT_76 : aggT Try.prog 76 = some false := by kernel_rfl
@[simp] theorem ty_szT_76 : szT Try.prog 76 = some 1 := by kernel_rfl
@[simp] theorem ty_zeroT_76 : zeroT Try.prog 76 = some Go.Value.nilFunc := by kernel_rfl
@[simp] theorem ty_byT_76 : byT Try.prog 76 = some 8 := by kernel_rfl
@[simp] theorem ty_aggT_77 : aggT Try.prog 77 = some false := by kernel_rfl
@[simp] theorem ty_szT_77 : szT Try.prog 77 = some 1 := by kernel_rfl
@[simp] theorem ty_zeroT_77 : zeroT Try.prog 77 = some Go.Value.nilFunc := by kernel_rfl
@[simp] theorem ty_byT_77 : byT Try.prog 77 = some 8 := by kernel_rfl
@[simp] theorem ty_aggT_78 : aggT Try.prog 78 = some false := by kernel_rfl
@[simp] theorem ty_szT_78 : szT Try.prog 78 = some 1 := by kernel_rfl
@[simp] theorem ty_zeroT_78 : zeroT Try.prog 78 = some Go.Value.nilFunc := by kernel_rfl
@[simp] theorem ty_byT_78 : byT Try.prog 78 = some 8 := by kernel_rfl
@[simp] theorem ty_aggT_79 : aggT Try.prog 79 = some false := by kernel_rfl
@[simp] theorem ty_szT_79 : szT Try.prog 79 = some 1 := by kernel_rfl
@[simp] theorem ty_zeroT_79 : zeroT Try.prog 79 = some Go.Value.nilFunc := by kernel_rfl
@[simp] theorem ty_byT_79 : byT Try.prog 79 = some 8 := by kernel_rfl
@[simp] theorem ty_aggT_80 : aggT Try.prog 80 = some false := by kernel_rfl
@[simp] theorem ty_szT_80 : szT Try.prog 80 = some 1 := by kernel_rfl
@[simp] theorem ty_zeroT_80 : zeroT Try.prog 80 = some Go.Value.nilFunc := by kernel_rfl
@[simp] theorem ty_byT_80 : byT Try.prog 80 = some 8 := by kernel_rfl
@[simp] theorem ty_aggT_81 : aggT Try.prog 81 = some false := by kernel_rfl
@[simp] theorem ty_szT_81 : szT Try.prog 81 = some 1 := by kernel_rfl
@[simp] theorem ty_zeroT_81 : zeroT Try.prog 81 = some Go.Value.nilFunc := by kernel_rfl
@[simp] theorem ty_byT_81 : byT Try.prog 81 = some 8 := by kernel_rfl
@[simp] theorem ty_aggT_82 : aggT Try.prog 82 = some false := by kernel_rfl
@[simp] theorem ty_szT_82 : szT Try.prog 82 = some 1 := by kernel_rfl
@[simp] theorem ty_zeroT_82 : zeroT Try.prog 82 = some Go.Value.nilFunc := by kernel_rfl
@[simp] theorem ty_byT_82 : byT Try.prog 82 = some 8 := by kernel_rfl
@[simp] theorem ty_aggT_83 : aggT Try.prog 83 = some false := by kernel_rfl
@[simp] theorem ty_szT_83 : szT Try.prog 83 = some 1 := by kernel_rfl
@[simp] theorem ty_zeroT_83 : zeroT Try.prog 83 = some (Go.Value.pointer none) := by kernel_rfl
@[simp] theorem ty_byT_83 : byT Try.prog 83 = some 8 := by kernel_rfl
@[simp] theorem ty_aggT_84 : aggT Try.prog 84 = some true := by kernel_rfl
@[simp] theorem ty_szT_84 : szT Try.prog 84 = some 128 := by kernel_rfl
@[simp] theorem ty_zeroT_84 : zeroT Try.prog 84 = some (.agg (zrow 128 (Go.Value.bool false))) := by kernel_rfl
@[simp] theorem ty_byT_84 : byT Try.prog 84 = some 128 := by kernel_rfl
@[simp] theorem ty_arT_84 : arT Try.prog 84 = some (128, 4) := by kernel_rfl
@[simp] theorem ty_placesT_84 : placesT Try.prog 84 = none := by kernel_rfl
@[simp] theorem ty_aggT_85 : aggT Try.prog 85 = some true := by kernel_rfl
@[simp] theorem ty_szT_85 : szT Try.prog 85 = some 128 := by kernel_rfl
@[simp] theorem ty_zeroT_85 : zeroT Try.prog 85 = some (.agg (zrow 128 (Go.Value.bool false))) := by kernel_rfl
@[simp] theorem ty_byT_85 : byT Try.prog 85 = some 128 := by kernel_rfl
@[simp] theorem ty_arT_85 : arT Try.prog 85 = some (128, 4) := by kernel_rfl
@[simp] theorem ty_placesT_85 : placesT Try.prog 85 = none := by kernel_rfl
@[simp] theorem ty_aggT_86 : aggT Try.prog 86 = some false := by kernel_rfl
@[simp] theorem ty_szT_86 : szT Try.prog 86 = some 1 := by kernel_rfl
@[simp] theorem ty_zeroT_86 : zeroT Try.prog 86 = some Go.Value.nilFunc := by kernel_rfl
@[simp] theorem ty_byT_86 : byT Try.prog 86 = some 8 := by kernel_rfl
@[simp] theorem ty_aggT_87 : aggT Try.prog 87 = some true := by kernel_rfl
@[simp] theorem ty_szT_87 : szT Try.prog 87 = some 5 := by kernel_rfl
@[simp] theorem ty_zeroT_87 : zeroT Try.prog 87 = some (Go.Value.agg #[Go.Value.int Go.IntKind.i64 0, Go.Value.int Go.IntKind.i64 0, Go.Value.int Go.IntKind.i64 0, Go.Value.int Go.IntKind.i64 0, Go.Value.int Go.IntKind.i64 0]) := by kernel_rfl
@[simp] theorem ty_byT_87 : byT Try.prog 87 = some 40 := by kernel_rfl
@[simp] theorem ty_arT_87 : arT Try.prog 87 = some (5, 3) := by kernel_rfl
@[simp] theorem ty_placesT_87 : placesT Try.prog 87 = none := by kernel_rfl
@[simp] theorem ty_aggT_88 : aggT Try.prog 88 = some false := by kernel_rfl
@[simp] theorem ty_szT_88 : szT Try.prog 88 = some 1 := by kernel_rfl
@[simp] theorem ty_zeroT_88 : zeroT Try.prog 88 = some Go.Value.nilFunc := by kernel_rfl
@[simp] theorem ty_byT_88 : byT Try.prog 88 = some 8 := by kernel_rfl
@[simp] theorem ty_aggT_89 : aggT Try.prog 89 = some false := by kernel_rfl
@[simp] theorem ty_szT_89 : szT Try.prog 89 = some 1 := by kernel_rfl
@[simp] theorem ty_zeroT_89 : zeroT Try.prog 89 = some Go.Value.nilFunc := by kernel_rfl
@[simp] theorem ty_byT_89 : byT Try.prog 89 = some 8 := by kernel_rfl
@[simp] theorem ty_aggT_90 : aggT Try.prog 90 = some false := by kernel_rfl
@[simp] theorem ty_szT_90 : szT Try.prog 90 = some 1 := by kernel_rfl
@[simp] theorem ty_zeroT_90 : zeroT Try.prog 90 = some (Go.Value.slice none 0 0) := by kernel_rfl
@[simp] theorem ty_byT_90 : byT Try.prog 90 = some 24 := by kernel_rfl
@[simp] theorem ty_elT_90 : elT Try.prog 90 = some 94 := by kernel_rfl
@[simp] theorem ty_srcT_90 : srcT Try.prog 90 = true := by kernel_rfl
@[simp] theorem ty_aggT_91 : aggT Try.prog 91 = some false := by kernel_rfl
@[simp] theorem ty_szT_91 : szT Try.prog 91 = some 1 := by kernel_rfl
@[simp] theorem ty_zeroT_91 : zeroT Try.prog 91 = some Go.Value.nilFunc := by kernel_rfl
@[simp] theorem ty_byT_91 : byT Try.prog 91 = some 8 := by kernel_rfl
@[simp] theorem ty_aggT_92 : aggT Try.prog 92 = some false := by kernel_rfl
@[simp] theorem ty_szT_92 : szT Try.prog 92 = some 1 := by kernel_rfl
@[simp] theorem ty_zeroT_92 : zeroT Try.prog 92 = some Go.Value.nilFunc := by kernel_rfl
@[simp] theorem ty_byT_92 : byT Try.prog 92 = some 8 := by kernel_rfl
@[simp] theorem ty_aggT_93 : aggT Try.prog 93 = some true := by kernel_rfl
@[simp] theorem ty_szT_93 : szT Try.prog 93 = some 3 := by kernel_rfl
@[simp] theorem ty_zeroT_93 : zeroT Try.prog 93 = some (Go.Value.agg #[Go.Value.slice none 0 0, Go.Value.slice none 0 0, Go.Value.int Go.IntKind.i64 0]) := by kernel_rfl
@[simp] theorem ty_byT_93 : byT Try.prog 93 = some 56 := by kernel_rfl
@[simp] theorem ty_placesT_93 : placesT Try.prog 93 = some #[(0, 1), (1, 1), (2, 1)] := by kernel_rfl
@[simp] theorem ty_fldT_93_0 : fldT Try.prog 93 0 = some (0, 1, false) := by kernel_rfl
@[simp] theorem ty_fldT_93_1 : fldT Try.prog 93 1 = some (1, 1, false) := by kernel_rfl
@[simp] theorem ty_fldT_93_2 : fldT Try.prog 93 2 = some (2, 1, false) := by kernel_rfl
@[simp] theorem ty_aggT_94 : aggT Try.prog 94 = some true := by kernel_rfl
@[simp] theorem ty_szT_94 : szT Try.prog 94 = some 3 := by kernel_rfl
@[simp] theorem ty_zeroT_94 : zeroT Try.prog 94 = some (Go.Value.agg #[Go.Value.slice none 0 0, Go.Value.slice none 0 0, Go.Value.int Go.IntKind.i64 0]) := by kernel_rfl
@[simp] theorem ty_byT_94 : byT Try.prog 94 = some 56 := by kernel_rfl
@[simp] theorem ty_placesT_94 : placesT Try.prog 94 = some #[(0, 1), (1, 1), (2, 1)] := by kernel_rfl
@[simp] theorem ty_fldT_94_0 : fldT Try.prog 94 0 = some (0, 1, false) := by kernel_rfl
@[simp] theorem ty_fldT_94_1 : fldT Try.prog 94 1 = some (1, 1, false) := by kernel_rfl
@[simp] theorem ty_fldT_94_2 : fldT Try.prog 94 2 = some (2, 1, false) := by kernel_rfl
@[simp] theorem ty_aggT_95 : aggT Try.prog 95 = some false := by kernel_rfl
@[simp] theorem ty_szT_95 : szT Try.prog 95 = some 1 := by kernel_rfl
@[simp] theorem ty_zeroT_95 : zeroT Try.prog 95 = some Go.Value.nilFunc := by kernel_rfl
@[simp] theorem ty_byT_95 : byT Try.prog 95 = some 8 := by kernel_rfl
@[simp] theorem ty_aggT_96 : aggT Try.prog 96 = some false := by kernel_rfl
@[simp] theorem ty_szT_96 : szT Try.prog 96 = some 1 := by kernel_rfl
@[simp] theorem ty_zeroT_96 : zeroT Try.prog 96 = some Go.Value.nilFunc := by kernel_rfl
@[simp] theorem ty_byT_96 : byT Try.prog 96 = some 8 := by kernel_rfl
@[simp] theorem ty_aggT_97 : aggT Try.prog 97 = some false := by kernel_rfl
@[simp] theorem ty_szT_97 : szT Try.prog 97 = some 1 := by kernel_rfl
@[simp] theorem ty_zeroT_97 : zeroT Try.prog 97 = some Go.Value.nilFunc := by kernel_rfl
@[simp] theorem ty_byT_97 : byT Try.prog 97 = some 8 := by kernel_rfl
@[simp] theorem ty_aggT_98 : aggT Try.prog 98 = some false := by kernel_rfl
@[simp] theorem ty_szT_98 : szT Try.prog 98 = some 1 := by kernel_rfl
@[simp] theorem ty_zeroT_98 : zeroT Try.prog 98 = some Go.Value.nilFunc := by kernel_rfl
@[simp] theorem ty_byT_98 : byT Try.prog 98 = some 8 := by kernel_rfl
@[simp] theorem ty_aggT_99 : aggT Try.prog 99 = some false := by kernel_rfl
@[simp] theorem ty_szT_99 : szT Try.prog 99 = some 1 := by kernel_rfl
@[simp] theorem ty_zeroT_99 : zeroT Try.prog 99 = some Go.Value.nilFunc := by kernel_rfl
@[simp] theorem ty_byT_99 : byT Try.prog 99 = some 8 := by kernel_rfl
@[simp] theorem ty_aggT_100 : aggT Try.prog 100 = some false := by kernel_rfl
@[simp] theorem ty_szT_100 : szT Try.prog 100 = some 1 := by kernel_rfl
@[simp] theorem ty_zeroT_100 : zeroT Try.prog 100 = some Go.Value.nilFunc := by kernel_rfl
@[simp] theorem ty_byT_100 : byT Try.prog 100 = some 8 := by kernel_rfl
@[simp] theorem ty_aggT_101 : aggT Try.prog 101 = some false := by kernel_rfl
@[simp] theorem ty_szT_101 : szT Try.prog 101 = some 1 := by kernel_rfl
@[simp] theorem ty_zeroT_101 : zeroT Try.prog 101 = some Go.Value.nilFunc := by kernel_rfl
@[simp] theorem ty_byT_101 : byT Try.prog 101 = some 8 := by kernel_rfl
@[simp] theorem ty_aggT_102 : aggT Try.prog 102 = some false := by kernel_rfl
@[simp] theorem ty_szT_102 : szT Try.prog 102 = some 1 := by kernel_rfl
@[simp] theorem ty_zeroT_102 : zeroT Try.prog 102 = some (Go.Value.int Go.IntKind.u64 0) := by kernel_rfl
@[simp] theorem ty_byT_102 : byT Try.prog 102 = some 8 := by kernel_rfl
@[simp] theorem ty_inT_102 : inT Try.prog 102 = some Go.IntKind.u64 := by kernel_rfl
@[simp] theorem ty_aggT_103 : aggT Try.prog 103 = some false := by kernel_rfl
@[simp] theorem ty_szT_103 : szT Try.prog 103 = some 1 := by kernel_rfl
@[simp] theorem ty_zeroT_103 : zeroT Try.prog 103 = some (Go.Value.tuple #[Go.Value.int Go.IntKind.u64 0, Go.Value.int Go.IntKind.u64 0]) := by kernel_rfl
@[simp] theorem ty_byT_103 : byT Try.prog 103 = some 0 := by kernel_rfl
@[simp] theorem ty_aggT_104 : aggT Try.prog 104 = some false := by kernel_rfl
@[simp] theorem ty_szT_104 : szT Try.prog 104 = some 1 := by kernel_rfl
@[simp] theorem ty_zeroT_104 : zeroT Try.prog 104 = some Go.Value.nilFunc := by kernel_rfl
@[simp] theorem ty_byT_104 : byT Try.prog 104 = some 8 := by kernel_rfl
@[simp] theorem ty_aggT_105 : aggT Try.prog 105 = some false := by kernel_rfl
@[simp] theorem ty_szT_105 : szT Try.prog 105 = some 1 := by kernel_rfl
@[simp] theorem ty_zeroT_105 : zeroT Try.prog 105 = some (Go.Value.map none) := by kernel_rfl
@[simp] theorem ty_byT_105 : byT Try.prog 105 = some 8 := by kernel_rfl
@[simp] theorem ty_mapT_105 : mapT Try.prog 105 = some (5, Go.Value.int Go.IntKind.i64 0) := by kernel_rfl
@[simp] theorem ty_aggT_106 : aggT Try.prog 106 = some false := by kernel_rfl
@[simp] theorem ty_szT_106 : szT Try.prog 106 = some 1 := by kernel_rfl
@[simp] theorem ty_zeroT_106 : zeroT Try.prog 106 = some Go.Value.nilFunc := by kernel_rfl
@[simp] theorem ty_byT_106 : byT Try.prog 106 = some 8 := by kernel_rfl
@[simp] theorem ty_aggT_107 : aggT Try.prog 107 = some false := by kernel_rfl
@[simp] theorem ty_szT_107 : szT Try.prog 107 = some 1 := by kernel_rfl
@[simp] theorem ty_zeroT_107 : zeroT Try.prog 107 = some (Go.Value.map none) := by kernel_rfl
@[simp] theorem ty_byT_107 : byT Try.prog 107 = some 8 := by kernel_rfl
@[simp] theorem ty_mapT_107 : mapT Try.prog 107 = some (1, Go.Value.int Go.IntKind.i64 0) := by kernel_rfl
@[simp] theorem ty_aggT_108 : aggT Try.prog 108 = some false := by kernel_rfl
@[simp] theorem ty_szT_108 : szT Try.prog 108 = some 1 := by kernel_rfl
@[simp] theorem ty_zeroT_108 : zeroT Try.prog 108 = some (Go.Value.int Go.IntKind.u32 0) := by kernel_rfl
@[simp] theorem ty_byT_108 : byT Try.prog 108 = some 4 := by kernel_rfl
@[simp] theorem ty_inT_108 : inT Try.prog 108 = some Go.IntKind.u32 := by kernel_rfl
@[simp] theorem ty_aggT_109 : aggT Try.prog 109 = some false := by kernel_rfl
@[simp] theorem ty_szT_109 : szT Try.prog 109 = some 1 := by kernel_rfl
@[simp] theorem ty_zeroT_109 : zeroT Try.prog 109 = some (Go.Value.tuple #[Go.Value.int Go.IntKind.u32 0, Go.Value.int Go.IntKind.u32 0]) := by kernel_rfl
@[simp] theorem ty_byT_109 : byT Try.prog 109 = some 0 := by kernel_rfl
@[simp] theorem ty_aggT_110 : aggT Try.prog 110 = some false := by kernel_rfl
@[simp] theorem ty_szT_110 : szT Try.prog 110 = some 1 := by kernel_rfl
@[simp] theorem ty_zeroT_110 : zeroT Try.prog 110 = some Go.Value.nilFunc := by kernel_rfl
@[simp] theorem ty_byT_110 : byT Try.prog 110 = some 8 := by kernel_rfl
@[simp] theorem ty_aggT_111 : aggT Try.prog 111 = some false := by kernel_rfl
@[simp] theorem ty_szT_111 : szT Try.prog 111 = some 1 := by kernel_rfl
@[simp] theorem ty_zeroT_111 : zeroT Try.prog 111 = some (Go.Value.tuple #[Go.Value.int Go.IntKind.u64 0, Go.Value.int Go.IntKind.u64 0]) := by kernel_rfl
@[simp] theorem ty_byT_111 : byT Try.prog 111 = some 0 := by kernel_rfl
@[simp] theorem ty_aggT_112 : aggT Try.prog 112 = some false := by kernel_rfl
@[simp] theorem ty_szT_112 : szT Try.prog 112 = some 1 := by kernel_rfl
@[simp] theorem ty_zeroT_112 : zeroT Try.prog 112 = some Go.Value.nilFunc := by kernel_rfl
@[simp] theorem ty_byT_112 : byT Try.prog 112 = some 8 := by kernel_rfl
@[simp] theorem ty_aggT_113 : aggT Try.prog 113 = some false := by kernel_rfl
@[simp] theorem ty_szT_113 : szT Try.prog 113 = some 1 := by kernel_rfl
@[simp] theorem ty_zeroT_113 : zeroT Try.prog 113 = some Go.Value.nilFunc := by kernel_rfl
@[simp] theorem ty_byT_113 : byT Try.prog 113 = some 8 := by kernel_rfl
@[simp] theorem ty_aggT_114 : aggT Try.prog 114 = some true := by kernel_rfl
@[simp] theorem ty_szT_114 : szT Try.prog 114 = some 4 := by kernel_rfl
@[simp] theorem ty_byT_114 : byT Try.prog 114 = some 40 := by kernel_rfl
@[simp] theorem ty_placesT_114 : placesT Try.prog 114 = some #[(0, 1), (1, 1), (2, 1), (3, 1)] := by kernel_rfl
@[simp] theorem ty_fldT_114_0 : fldT Try.prog 114 0 = some (0, 1, false) := by kernel_rfl
@[simp] theorem ty_fldT_114_1 : fldT Try.prog 114 1 = some (1, 1, false) := by kernel_rfl
@[simp] theorem ty_fldT_114_2 : fldT Try.prog 114 2 = some (2, 1, false) := by kernel_rfl
@[simp] theorem ty_fldT_114_3 : fldT Try.prog 114 3 = some (3, 1, false) := by kernel_rfl
@[simp] theorem ty_aggT_115 : aggT Try.prog 115 = some true := by kernel_rfl
@[simp] theorem ty_szT_115 : szT Try.prog 115 = some 4 := by kernel_rfl
@[simp] theorem ty_byT_115 : byT Try.prog 115 = some 40 := by kernel_rfl
@[simp] theorem ty_placesT_115 : placesT Try.prog 115 = some #[(0, 1), (1, 1), (2, 1), (3, 1)] := by kernel_rfl
@[simp] theorem ty_fldT_115_0 : fldT Try.prog 115 0 = some (0, 1, false) := by kernel_rfl
@[simp] theorem ty_fldT_115_1 : fldT Try.prog 115 1 = some (1, 1, false) := by kernel_rfl
@[simp] theorem ty_fldT_115_2 : fldT Try.prog 115 2 = some (2, 1, false) := by kernel_rfl
@[simp] theorem ty_fldT_115_3 : fldT Try.prog 115 3 = some (3, 1, false) := by kernel_rfl
@[simp] theorem ty_aggT_116 : aggT Try.prog 116 = some true := by kernel_rfl
@[simp] theorem ty_szT_116 : szT Try.prog 116 = some 0 := by kernel_rfl
@[simp] theorem ty_zeroT_116 : zeroT Try.prog 116 = some (Go.Value.agg #[]) := by kernel_rfl
@[simp] theorem ty_byT_116 : byT Try.prog 116 = some 0 := by kernel_rfl
@[simp] theorem ty_arT_116 : arT Try.prog 116 = some (0, 16) := by kernel_rfl
@[simp] theorem ty_placesT_116 : placesT Try.prog 116 = none := by kernel_rfl
@[simp] theorem ty_aggT_117 : aggT Try.prog 117 = some true := by kernel_rfl
@[simp] theorem ty_szT_117 : szT Try.prog 117 = some 0 := by kernel_rfl
@[simp] theorem ty_zeroT_117 : zeroT Try.prog 117 = some (Go.Value.agg #[]) := by kernel_rfl
@[simp] theorem ty_byT_117 : byT Try.prog 117 = some 0 := by kernel_rfl
@[simp] theorem ty_placesT_117 : placesT Try.prog 117 = some #[(0, 0)] := by kernel_rfl
@[simp] theorem ty_fldT_117_0 : fldT Try.prog 117 0 = some (0, 0, true) := by kernel_rfl
@[simp] theorem ty_aggT_118 : aggT Try.prog 118 = some true := by kernel_rfl
@[simp] theorem ty_szT_118 : szT Try.prog 118 = some 0 := by kernel_rfl
@[simp] theorem ty_zeroT_118 : zeroT Try.prog 118 = some (Go.Value.agg #[]) := by kernel_rfl
@[simp] theorem ty_byT_118 : byT Try.prog 118 = some 0 := by kernel_rfl
@[simp] theorem ty_placesT_118 : placesT Try.prog 118 = some #[(0, 0)] := by kernel_rfl
@[simp] theorem ty_fldT_118_0 : fldT Try.prog 118 0 = some (0, 0, true) := by kernel_rfl
@[simp] theorem ty_aggT_119 : aggT Try.prog 119 = some false := by kernel_rfl
@[simp] theorem ty_szT_119 : szT Try.prog 119 = some 1 := by kernel_rfl
@[simp] theorem ty_zeroT_119 : zeroT Try.prog 119 = some (Go.Value.int Go.IntKind.u8 0) := by kernel_rfl
@[simp] theorem ty_byT_119 : byT Try.prog 119 = some 1 := by kernel_rfl
@[simp] theorem ty_inT_119 : inT Try.prog 119 = some Go.IntKind.u8 := by kernel_rfl
@[simp] theorem ty_aggT_120 : aggT Try.prog 120 = some false := by kernel_rfl
@[simp] theorem ty_szT_120 : szT Try.prog 120 = some 1 := by kernel_rfl
@[simp] theorem ty_zeroT_120 : zeroT Try.prog 120 = some (Go.Value.int Go.IntKind.u8 0) := by kernel_rfl
@[simp] theorem ty_byT_120 : byT Try.prog 120 = some 1 := by kernel_rfl
@[simp] theorem ty_inT_120 : inT Try.prog 120 = some Go.IntKind.u8 := by kernel_rfl
@[simp] theorem ty_aggT_121 : aggT Try.prog 121 = some false := by kernel_rfl
@[simp] theorem ty_szT_121 : szT Try.prog 121 = some 1 := by kernel_rfl
@[simp] theorem ty_zeroT_121 : zeroT Try.prog 121 = some Go.Value.nilFunc := by kernel_rfl
@[simp] theorem ty_byT_121 : byT Try.prog 121 = some 8 := by kernel_rfl
@[simp] theorem ty_aggT_122 : aggT Try.prog 122 = some false := by kernel_rfl
@[simp] theorem ty_szT_122 : szT Try.prog 122 = some 1 := by kernel_rfl
@[simp] theorem ty_zeroT_122 : zeroT Try.prog 122 = some (Go.Value.pointer none) := by kernel_rfl
@[simp] theorem ty_byT_122 : byT Try.prog 122 = some 8 := by kernel_rfl
@[simp] theorem ty_aggT_123 : aggT Try.prog 123 = some false := by kernel_rfl
@[simp] theorem ty_szT_123 : szT Try.prog 123 = some 1 := by kernel_rfl
@[simp] theorem ty_zeroT_123 : zeroT Try.prog 123 = some (Go.Value.int Go.IntKind.i32 0) := by kernel_rfl
@[simp] theorem ty_byT_123 : byT Try.prog 123 = some 4 := by kernel_rfl
@[simp] theorem ty_inT_123 : inT Try.prog 123 = some Go.IntKind.i32 := by kernel_rfl
@[simp] theorem ty_aggT_124 : aggT Try.prog 124 = some false := by kernel_rfl
@[simp] theorem ty_szT_124 : szT Try.prog 124 = some 1 := by kernel_rfl
@[simp] theorem ty_zeroT_124 : zeroT Try.prog 124 = some (Go.Value.int Go.IntKind.i32 0) := by kernel_rfl
@[simp] theorem ty_byT_124 : byT Try.prog 124 = some 4 := by kernel_rfl
@[simp] theorem ty_inT_124 : inT Try.prog 124 = some Go.IntKind.i32 := by kernel_rfl
@[simp] theorem ty_aggT_125 : aggT Try.prog 125 = some true := by kernel_rfl
@[simp] theorem ty_szT_125 : szT Try.prog 125 = some 11 := by kernel_rfl
@[simp] theorem ty_zeroT_125 : zeroT Try.prog 125 = some (Go.Value.agg #[Go.Value.int Go.IntKind.u64 0, Go.Value.int Go.IntKind.u64 0, Go.Value.int Go.IntKind.u32 0, Go.Value.int Go.IntKind.u8 0, Go.Value.int Go.IntKind.u8 0, Go.Value.int Go.IntKind.u8 0, Go.Value.int Go.IntKind.u8 0, Go.Value.nilFunc, Go.Value.pointer none, Go.Value.int Go.IntKind.i32 0, Go.Value.int Go.IntKind.i32 0]) := by kernel_rfl
@[simp] theorem ty_byT_125 : byT Try.prog 125 = some 48 := by kernel_rfl
@[simp] theorem ty_placesT_125 : placesT Try.prog 125 = some #[(0, 1), (1, 1), (2, 1), (3, 1), (4, 1), (5, 1), (6, 1), (7, 1), (8, 1), (9, 1), (10, 1)] := by kernel_rfl
@[simp] theorem ty_fldT_125_0 : fldT Try.prog 125 0 = some (0, 1, false) := by kernel_rfl
@[simp] theorem ty_fldT_125_1 : fldT Try.prog 125 1 = some (1, 1, false) := by kernel_rfl
@[simp] theorem ty_fldT_125_2 : fldT Try.prog 125 2 = some (2, 1, false) := by kernel_rfl
@[simp] theorem ty_fldT_125_3 : fldT Try.prog 125 3 = some (3, 1, false) := by kernel_rfl
@[simp] theorem ty_fldT_125_4 : fldT Try.prog 125 4 = some (4, 1, false) := by kernel_rfl
@[simp] theorem ty_fldT_125_5 : fldT Try.prog 125 5 = some (5, 1, false) := by kernel_rfl
@[simp] theorem ty_aggT_126 : aggT Try.prog 126 = some true := by kernel_rfl
@[simp] theorem ty_szT_126 : szT Try.prog 126 = some 11 := by kernel_rfl
@[simp] theorem ty_zeroT_126 : zeroT Try.prog 126 = some (Go.Value.agg #[Go.Value.int Go.IntKind.u64 0, Go.Value.int Go.IntKind.u64 0, Go.Value.int Go.IntKind.u32 0, Go.Value.int Go.IntKind.u8 0, Go.Value.int Go.IntKind.u8 0, Go.Value.int Go.IntKind.u8 0, Go.Value.int Go.IntKind.u8 0, Go.Value.nilFunc, Go.Value.pointer none, Go.Value.int Go.IntKind.i32 0, Go.Value.int Go.IntKind.i32 0]) := by kernel_rfl
@[simp] theorem ty_byT_126 : byT Try.prog 126 = some 48 := by kernel_rfl
@[simp] theorem ty_placesT_126 : placesT Try.prog 126 = some #[(0, 1), (1, 1), (2, 1), (3, 1), (4, 1), (5, 1), (6, 1), (7, 1), (8, 1), (9, 1), (10, 1)] := by kernel_rfl
@[simp] theorem ty_fldT_126_0 : fldT Try.prog 126 0 = some (0, 1, false) := by kernel_rfl
@[simp] theorem ty_fldT_126_1 : fldT Try.prog 126 1 = some (1, 1, false) := by kernel_rfl
@[simp] theorem ty_fldT_126_2 : fldT Try.prog 126 2 = some (2, 1, false) := by kernel_rfl
@[simp] theorem ty_fldT_126_3 : fldT Try.prog 126 3 = some (3, 1, false) := by kernel_rfl
@[simp] theorem ty_fldT_126_4 : fldT Try.prog 126 4 = some (4, 1, false) := by kernel_rfl
@[simp] theorem ty_fldT_126_5 : fldT Try.prog 126 5 = some (5, 1, false) := by kernel_rfl
@[simp] theorem ty_aggT_127 : aggT Try.prog 127 = some false := by kernel_rfl
@[simp] theorem ty_szT_127 : szT Try.prog 127 = some 1 := by kernel_rfl
@[simp] theorem ty_zeroT_127 : zeroT Try.prog 127 = some (Go.Value.pointer none) := by kernel_rfl
@[simp] theorem ty_byT_127 : byT Try.prog 127 = some 8 := by kernel_rfl

end Go.Proofs.Ytnnjehonbolliaa
