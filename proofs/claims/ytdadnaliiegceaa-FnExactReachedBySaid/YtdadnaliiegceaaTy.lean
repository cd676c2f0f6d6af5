/- Facts on the types of the translation, for simp. Written by program (tyfacts.py). -/
import Derived.Test.YtdadnaliiegceaaProg
import Derived.Test.YtdadnaliiegceaaEngX
import Derived.KernelRfl
namespace Go.Proofs.Ytdadnaliiegceaa
open Go Go.Eng

@[simp] theorem ty_fnOK_2 : fnOK Try.prog 2 = true := rfl
@[simp] theorem ty_fnOK_3 : fnOK Try.prog 3 = true := rfl
@[simp] theorem ty_fnOK_4 : fnOK Try.prog 4 = true := rfl
@[simp] theorem ty_fnOK_5 : fnOK Try.prog 5 = true := rfl
@[simp] theorem ty_fnOK_6 : fnOK Try.prog 6 = true := rfl
@[simp] theorem ty_fnOK_7 : fnOK Try.prog 7 = true := rfl
@[simp] theorem ty_fnOK_8 : fnOK Try.prog 8 = true := rfl
@[simp] theorem ty_fnOK_9 : fnOK Try.prog 9 = true := rfl
@[simp] theorem ty_fnOK_10 : fnOK Try.prog 10 = true := rfl
@[simp] theorem ty_fnOK_11 : fnOK Try.prog 11 = true := rfl
@[simp] theorem ty_fnOK_12 : fnOK Try.prog 12 = true := rfl
@[simp] theorem ty_fnOK_13 : fnOK Try.prog 13 = true := rfl
@[simp] theorem ty_fnOK_14 : fnOK Try.prog 14 = true := rfl
@[simp] theorem ty_fnOK_15 : fnOK Try.prog 15 = true := rfl
@[simp] theorem ty_fnOK_16 : fnOK Try.prog 16 = true := rfl
@[simp] theorem ty_fnOK_17 : fnOK Try.prog 17 = true := rfl
@[simp] theorem ty_fnOK_18 : fnOK Try.prog 18 = true := rfl
@[simp] theorem ty_fnOK_19 : fnOK Try.prog 19 = true := rfl
@[simp] theorem ty_fnOK_20 : fnOK Try.prog 20 = true := rfl
@[simp] theorem ty_fnOK_21 : fnOK Try.prog 21 = true := rfl
@[simp] theorem ty_fnOK_22 : fnOK Try.prog 22 = true := rfl
@[simp] theorem ty_fnOK_23 : fnOK Try.prog 23 = true := rfl
@[simp] theorem ty_fnOK_24 : fnOK Try.prog 24 = true := rfl
@[simp] theorem ty_fnOK_25 : fnOK Try.prog 25 = true := rfl
@[simp] theorem ty_fnOK_26 : fnOK Try.prog 26 = true := rfl
@[simp] theorem ty_fnOK_27 : fnOK Try.prog 27 = true := rfl
@[simp] theorem ty_fnOK_28 : fnOK Try.prog 28 = true := rfl
@[simp] theorem ty_fnOK_29 : fnOK Try.prog 29 = true := rfl
@[simp] theorem ty_fnOK_30 : fnOK Try.prog 30 = true := rfl
@[simp] theorem ty_fnOK_31 : fnOK Try.prog 31 = true := rfl
@[simp] theorem ty_fnOK_32 : fnOK Try.prog 32 = true := rfl
@[simp] theorem ty_fnOK_33 : fnOK Try.prog 33 = true := rfl
@[simp] theorem ty_fnOK_34 : fnOK Try.prog 34 = true := rfl
@[simp] theorem ty_fnOK_35 : fnOK Try.prog 35 = true := rfl
@[simp] theorem ty_fnOK_36 : fnOK Try.prog 36 = true := rfl
@[simp] theorem ty_fnOK_37 : fnOK Try.prog 37 = true := rfl
@[simp] theorem ty_fnOK_38 : fnOK Try.prog 38 = true := rfl
@[simp] theorem ty_fnOK_39 : fnOK Try.prog 39 = true := rfl
@[simp] theorem ty_fnOK_40 : fnOK Try.prog 40 = true := rfl
@[simp] theorem ty_fnOK_41 : fnOK Try.prog 41 = true := rfl
@[simp] theorem ty_fnOK_42 : fnOK Try.prog 42 = true := rfl
@[simp] theorem ty_fnOK_43 : fnOK Try.prog 43 = true := rfl
@[simp] theorem ty_fnOK_44 : fnOK Try.prog 44 = true := rfl
@[simp] theorem ty_fnOK_45 : fnOK Try.prog 45 = true := rfl
@[simp] theorem ty_fnOK_46 : fnOK Try.prog 46 = true := rfl
@[simp] theorem ty_fnOK_47 : fnOK Try.prog 47 = true := rfl
@[simp] theorem ty_fnOK_48 : fnOK Try.prog 48 = true := rfl
@[simp] theorem ty_fnOK_49 : fnOK Try.prog 49 = true := rfl
@[simp] theorem ty_fnOK_50 : fnOK Try.prog 50 = true := rfl
@[simp] theorem ty_fnOK_51 : fnOK Try.prog 51 = true := rfl
@[simp] theorem ty_fnOK_52 : fnOK Try.prog 52 = true := rfl
@[simp] theorem ty_fnOK_53 : fnOK Try.prog 53 = true := rfl
@[simp] theorem ty_fnOK_54 : fnOK Try.prog 54 = true := rfl
@[simp] theorem ty_fnOK_55 : fnOK Try.prog 55 = true := rfl
@[simp] theorem ty_fnOK_56 : fnOK Try.prog 56 = true := rfl
@[simp] theorem ty_fnOK_57 : fnOK Try.prog 57 = true := rfl
@[simp] theorem ty_fnOK_58 : fnOK Try.prog 58 = true := rfl
@[simp] theorem ty_fnOK_59 : fnOK Try.prog 59 = true := rfl
@[simp] theorem ty_fnOK_60 : fnOK Try.prog 60 = true := rfl
@[simp] theorem ty_fnOK_61 : fnOK Try.prog 61 = true := rfl
@[simp] theorem ty_fnOK_62 : fnOK Try.prog 62 = true := rfl
@[simp] theorem ty_fnOK_63 : fnOK Try.prog 63 = true := rfl
@[simp] theorem ty_fnOK_64 : fnOK Try.prog 64 = true := rfl
@[simp] theorem ty_fnOK_65 : fnOK Try.prog 65 = true := rfl
@[simp] theorem ty_fnOK_66 : fnOK Try.prog 66 = true := rfl
@[simp] theorem ty_fnOK_67 : fnOK Try.prog 67 = true := rfl
@[simp] theorem ty_fnOK_68 : fnOK Try.prog 68 = true := rfl
@[simp] theorem ty_fnOK_69 : fnOK Try.prog 69 = true := rfl
@[simp] theorem ty_fnOK_70 : fnOK Try.prog 70 = true := rfl
@[simp] theorem ty_fnOK_71 : fnOK Try.prog 71 = true := rfl
@[simp] theorem ty_fnOK_72 : fnOK Try.prog 72 = true := rfl
@[simp] theorem ty_fnOK_73 : fnOK Try.prog 73 = true := rfl
@[simp] theorem ty_fnOK_74 : fnOK Try.prog 74 = true := rfl
@[simp] theorem ty_fnOK_75 : fnOK Try.prog 75 = true := rfl
@[simp] theorem ty_fnOK_76 : fnOK Try.prog 76 = true := rfl
@[simp] theorem ty_fnOK_77 : fnOK Try.prog 77 = true := rfl
@[simp] theorem ty_fnOK_78 : fnOK Try.prog 78 = true := rfl
@[simp] theorem ty_fnOK_79 : fnOK Try.prog 79 = true := rfl
@[simp] theorem ty_fnOK_80 : fnOK Try.prog 80 = true := rfl
@[simp] theorem ty_fnOK_81 : fnOK Try.prog 81 = true := rfl
@[simp] theorem ty_aggT_0 : aggT Try.prog 0 = some false := rfl
@[simp] theorem ty_szT_0 : szT Try.prog 0 = some 1 := rfl
@[simp] theorem ty_zeroT_0 : zeroT Try.prog 0 = some (Go.Value.tuple #[]) := rfl
@[simp] theorem ty_byT_0 : byT Try.prog 0 = some 0 := rfl
@[simp] theorem ty_aggT_1 : aggT Try.prog 1 = some false := rfl
@[simp] theorem ty_szT_1 : szT Try.prog 1 = some 1 := rfl
@[simp] theorem ty_zeroT_1 : zeroT Try.prog 1 = some Go.Value.nilFunc := rfl
@[simp] theorem ty_byT_1 : byT Try.prog 1 = some 8 := rfl
@[simp] theorem ty_aggT_2 : aggT Try.prog 2 = some false := rfl
@[simp] theorem ty_szT_2 : szT Try.prog 2 = some 1 := rfl
@[simp] theorem ty_zeroT_2 : zeroT Try.prog 2 = some (Go.Value.int Go.IntKind.i64 0) := rfl
@[simp] theorem ty_byT_2 : byT Try.prog 2 = some 8 := rfl
@[simp] theorem ty_inT_2 : inT Try.prog 2 = some Go.IntKind.i64 := rfl
@[simp] theorem ty_aggT_3 : aggT Try.prog 3 = some false := rfl
@[simp] theorem ty_szT_3 : szT Try.prog 3 = some 1 := rfl
@[simp] theorem ty_zeroT_3 : zeroT Try.prog 3 = some (Go.Value.int Go.IntKind.i64 0) := rfl
@[simp] theorem ty_byT_3 : byT Try.prog 3 = some 8 := rfl
@[simp] theorem ty_inT_3 : inT Try.prog 3 = some Go.IntKind.i64 := rfl
@[simp] theorem ty_aggT_4 : aggT Try.prog 4 = some false := rfl
@[simp] theorem ty_szT_4 : szT Try.prog 4 = some 1 := rfl
@[simp] theorem ty_zeroT_4 : zeroT Try.prog 4 = some (Go.Value.bool false) := rfl
@[simp] theorem ty_byT_4 : byT Try.prog 4 = some 1 := rfl
@[simp] theorem ty_aggT_5 : aggT Try.prog 5 = some false := rfl
@[simp] theorem ty_szT_5 : szT Try.prog 5 = some 1 := rfl
@[simp] theorem ty_zeroT_5 : zeroT Try.prog 5 = some (Go.Value.int Go.IntKind.u8 0) := rfl
@[simp] theorem ty_byT_5 : byT Try.prog 5 = some 1 := rfl
@[simp] theorem ty_inT_5 : inT Try.prog 5 = some Go.IntKind.u8 := rfl
@[simp] theorem ty_aggT_6 : aggT Try.prog 6 = some false := rfl
@[simp] theorem ty_szT_6 : szT Try.prog 6 = some 1 := rfl
@[simp] theorem ty_zeroT_6 : zeroT Try.prog 6 = some (Go.Value.int Go.IntKind.u8 0) := rfl
@[simp] theorem ty_byT_6 : byT Try.prog 6 = some 1 := rfl
@[simp] theorem ty_inT_6 : inT Try.prog 6 = some Go.IntKind.u8 := rfl
@[simp] theorem ty_aggT_7 : aggT Try.prog 7 = some true := rfl
@[simp] theorem ty_szT_7 : szT Try.prog 7 = some 4 := rfl
@[simp] theorem ty_zeroT_7 : zeroT Try.prog 7 = some (Go.Value.agg #[Go.Value.int Go.IntKind.i64 0, Go.Value.int Go.IntKind.i64 0, Go.Value.bool false, Go.Value.int Go.IntKind.u8 0]) := rfl
@[simp] theorem ty_byT_7 : byT Try.prog 7 = some 24 := rfl
@[simp] theorem ty_placesT_7 : placesT Try.prog 7 = some #[(0, 1), (1, 1), (2, 1), (3, 1)] := by kernel_rfl
@[simp] theorem ty_fldT_7_0 : fldT Try.prog 7 0 = some (0, 1, false) := rfl
@[simp] theorem ty_fldT_7_1 : fldT Try.prog 7 1 = some (1, 1, false) := rfl
@[simp] theorem ty_fldT_7_2 : fldT Try.prog 7 2 = some (2, 1, false) := rfl
@[simp] theorem ty_fldT_7_3 : fldT Try.prog 7 3 = some (3, 1, false) := rfl
@[simp] theorem ty_aggT_8 : aggT Try.prog 8 = some true := rfl
@[simp] theorem ty_szT_8 : szT Try.prog 8 = some 4 := rfl
@[simp] theorem ty_zeroT_8 : zeroT Try.prog 8 = some (Go.Value.agg #[Go.Value.int Go.IntKind.i64 0, Go.Value.int Go.IntKind.i64 0, Go.Value.bool false, Go.Value.int Go.IntKind.u8 0]) := rfl
@[simp] theorem ty_byT_8 : byT Try.prog 8 = some 24 := rfl
@[simp] theorem ty_placesT_8 : placesT Try.prog 8 = some #[(0, 1), (1, 1), (2, 1), (3, 1)] := by kernel_rfl
@[simp] theorem ty_fldT_8_0 : fldT Try.prog 8 0 = some (0, 1, false) := rfl
@[simp] theorem ty_fldT_8_1 : fldT Try.prog 8 1 = some (1, 1, false) := rfl
@[simp] theorem ty_fldT_8_2 : fldT Try.prog 8 2 = some (2, 1, false) := rfl
@[simp] theorem ty_fldT_8_3 : fldT Try.prog 8 3 = some (3, 1, false) := rfl
@[simp] theorem ty_aggT_9 : aggT Try.prog 9 = some false := rfl
@[simp] theorem ty_szT_9 : szT Try.prog 9 = some 1 := rfl
@[simp] theorem ty_zeroT_9 : zeroT Try.prog 9 = some (Go.Value.string { data := #[] }) := rfl
@[simp] theorem ty_byT_9 : byT Try.prog 9 = some 16 := rfl
@[simp] theorem ty_srcT_9 : srcT Try.prog 9 = true := rfl
@[simp] theorem ty_aggT_10 : aggT Try.prog 10 = some false := rfl
@[simp] theorem ty_szT_10 : szT Try.prog 10 = some 1 := rfl
@[simp] theorem ty_zeroT_10 : zeroT Try.prog 10 = some (Go.Value.string { data := #[] }) := rfl
@[simp] theorem ty_byT_10 : byT Try.prog 10 = some 16 := rfl
@[simp] theorem ty_srcT_10 : srcT Try.prog 10 = true := rfl
@[simp] theorem ty_aggT_11 : aggT Try.prog 11 = some false := rfl
@[simp] theorem ty_szT_11 : szT Try.prog 11 = some 1 := rfl
@[simp] theorem ty_zeroT_11 : zeroT Try.prog 11 = some (Go.Value.string { data := #[] }) := rfl
@[simp] theorem ty_byT_11 : byT Try.prog 11 = some 16 := rfl
@[simp] theorem ty_srcT_11 : srcT Try.prog 11 = true := rfl
@[simp] theorem ty_aggT_12 : aggT Try.prog 12 = some false := rfl
@[simp] theorem ty_szT_12 : szT Try.prog 12 = some 1 := rfl
@[simp] theorem ty_zeroT_12 : zeroT Try.prog 12 = some (Go.Value.int Go.IntKind.u64 0) := rfl
@[simp] theorem ty_byT_12 : byT Try.prog 12 = some 8 := rfl
@[simp] theorem ty_inT_12 : inT Try.prog 12 = some Go.IntKind.u64 := rfl
@[simp] theorem ty_aggT_13 : aggT Try.prog 13 = some true := rfl
@[simp] theorem ty_szT_13 : szT Try.prog 13 = some 2 := rfl
@[simp] theorem ty_byT_13 : byT Try.prog 13 = some 24 := rfl
@[simp] theorem ty_placesT_13 : placesT Try.prog 13 = some #[(0, 1), (1, 1)] := by kernel_rfl
@[simp] theorem ty_fldT_13_0 : fldT Try.prog 13 0 = some (0, 1, false) := rfl
@[simp] theorem ty_fldT_13_1 : fldT Try.prog 13 1 = some (1, 1, false) := rfl
@[simp] theorem ty_aggT_14 : aggT Try.prog 14 = some true := rfl
@[simp] theorem ty_szT_14 : szT Try.prog 14 = some 2 := rfl
@[simp] theorem ty_byT_14 : byT Try.prog 14 = some 24 := rfl
@[simp] theorem ty_placesT_14 : placesT Try.prog 14 = some #[(0, 1), (1, 1)] := by kernel_rfl
@[simp] theorem ty_fldT_14_0 : fldT Try.prog 14 0 = some (0, 1, false) := rfl
@[simp] theorem ty_fldT_14_1 : fldT Try.prog 14 1 = some (1, 1, false) := rfl
@[simp] theorem ty_aggT_15 : aggT Try.prog 15 = some false := rfl
@[simp] theorem ty_szT_15 : szT Try.prog 15 = some 1 := rfl
@[simp] theorem ty_zeroT_15 : zeroT Try.prog 15 = some (Go.Value.pointer none) := rfl
@[simp] theorem ty_byT_15 : byT Try.prog 15 = some 8 := rfl
@[simp] theorem ty_aggT_16 : aggT Try.prog 16 = some false := rfl
@[simp] theorem ty_szT_16 : szT Try.prog 16 = some 1 := rfl
@[simp] theorem ty_zeroT_16 : zeroT Try.prog 16 = some (Go.Value.pointer none) := rfl
@[simp] theorem ty_byT_16 : byT Try.prog 16 = some 8 := rfl
@[simp] theorem ty_aggT_17 : aggT Try.prog 17 = some false := rfl
@[simp] theorem ty_szT_17 : szT Try.prog 17 = some 1 := rfl
@[simp] theorem ty_zeroT_17 : zeroT Try.prog 17 = some (Go.Value.pointer none) := rfl
@[simp] theorem ty_byT_17 : byT Try.prog 17 = some 8 := rfl
@[simp] theorem ty_aggT_18 : aggT Try.prog 18 = some true := rfl
@[simp] theorem ty_szT_18 : szT Try.prog 18 = some 1 := rfl
@[simp] theorem ty_zeroT_18 : zeroT Try.prog 18 = some (Go.Value.agg #[Go.Value.pointer none]) := rfl
@[simp] theorem ty_byT_18 : byT Try.prog 18 = some 8 := rfl
@[simp] theorem ty_placesT_18 : placesT Try.prog 18 = some #[(0, 1)] := by kernel_rfl
@[simp] theorem ty_fldT_18_0 : fldT Try.prog 18 0 = some (0, 1, false) := rfl
@[simp] theorem ty_aggT_19 : aggT Try.prog 19 = some true := rfl
@[simp] theorem ty_szT_19 : szT Try.prog 19 = some 1 := rfl
@[simp] theorem ty_zeroT_19 : zeroT Try.prog 19 = some (Go.Value.agg #[Go.Value.pointer none]) := rfl
@[simp] theorem ty_byT_19 : byT Try.prog 19 = some 8 := rfl
@[simp] theorem ty_placesT_19 : placesT Try.prog 19 = some #[(0, 1)] := by kernel_rfl
@[simp] theorem ty_fldT_19_0 : fldT Try.prog 19 0 = some (0, 1, false) := rfl
@[simp] theorem ty_aggT_20 : aggT Try.prog 20 = some false := rfl
@[simp] theorem ty_szT_20 : szT Try.prog 20 = some 1 := rfl
@[simp] theorem ty_zeroT_20 : zeroT Try.prog 20 = some Go.Value.nilIface := rfl
@[simp] theorem ty_byT_20 : byT Try.prog 20 = some 16 := rfl
@[simp] theorem ty_aggT_21 : aggT Try.prog 21 = some false := rfl
@[simp] theorem ty_szT_21 : szT Try.prog 21 = some 1 := rfl
@[simp] theorem ty_zeroT_21 : zeroT Try.prog 21 = some (Go.Value.int Go.IntKind.i32 0) := rfl
@[simp] theorem ty_byT_21 : byT Try.prog 21 = some 4 := rfl
@[simp] theorem ty_inT_21 : inT Try.prog 21 = some Go.IntKind.i32 := rfl
@[simp] theorem ty_aggT_22 : aggT Try.prog 22 = some false := rfl
@[simp] theorem ty_szT_22 : szT Try.prog 22 = some 1 := rfl
@[simp] theorem ty_zeroT_22 : zeroT Try.prog 22 = some (Go.Value.slice none 0 0) := rfl
@[simp] theorem ty_byT_22 : byT Try.prog 22 = some 24 := rfl
@[simp] theorem ty_elT_22 : elT Try.prog 22 = some 23 := rfl
@[simp] theorem ty_srcT_22 : srcT Try.prog 22 = true := rfl
@[simp] theorem ty_aggT_23 : aggT Try.prog 23 = some false := rfl
@[simp] theorem ty_szT_23 : szT Try.prog 23 = some 1 := rfl
@[simp] theorem ty_zeroT_23 : zeroT Try.prog 23 = some (Go.Value.slice none 0 0) := rfl
@[simp] theorem ty_byT_23 : byT Try.prog 23 = some 24 := rfl
@[simp] theorem ty_elT_23 : elT Try.prog 23 = some 3 := rfl
@[simp] theorem ty_srcT_23 : srcT Try.prog 23 = true := rfl
@[simp] theorem ty_aggT_24 : aggT Try.prog 24 = some true := rfl
@[simp] theorem ty_szT_24 : szT Try.prog 24 = some 2 := rfl
@[simp] theorem ty_zeroT_24 : zeroT Try.prog 24 = some (Go.Value.agg #[Go.Value.slice none 0 0, Go.Value.slice none 0 0]) := rfl
@[simp] theorem ty_byT_24 : byT Try.prog 24 = some 48 := rfl
@[simp] theorem ty_placesT_24 : placesT Try.prog 24 = some #[(0, 1), (1, 1)] := by kernel_rfl
@[simp] theorem ty_fldT_24_0 : fldT Try.prog 24 0 = some (0, 1, false) := rfl
@[simp] theorem ty_fldT_24_1 : fldT Try.prog 24 1 = some (1, 1, false) := rfl
@[simp] theorem ty_aggT_25 : aggT Try.prog 25 = some true := rfl
@[simp] theorem ty_szT_25 : szT Try.prog 25 = some 2 := rfl
@[simp] theorem ty_zeroT_25 : zeroT Try.prog 25 = some (Go.Value.agg #[Go.Value.slice none 0 0, Go.Value.slice none 0 0]) := rfl
@[simp] theorem ty_byT_25 : byT Try.prog 25 = some 48 := rfl
@[simp] theorem ty_placesT_25 : placesT Try.prog 25 = some #[(0, 1), (1, 1)] := by kernel_rfl
@[simp] theorem ty_fldT_25_0 : fldT Try.prog 25 0 = some (0, 1, false) := rfl
@[simp] theorem ty_fldT_25_1 : fldT Try.prog 25 1 = some (1, 1, false) := rfl
@[simp] theorem ty_aggT_26 : aggT Try.prog 26 = some false := rfl
@[simp] theorem ty_szT_26 : szT Try.prog 26 = some 1 := rfl
@[simp] theorem ty_zeroT_26 : zeroT Try.prog 26 = some Go.Value.nilFunc := rfl
@[simp] theorem ty_byT_26 : byT Try.prog 26 = some 8 := rfl
@[simp] theorem ty_aggT_27 : aggT Try.prog 27 = some false := rfl
@[simp] theorem ty_szT_27 : szT Try.prog 27 = some 1 := rfl
@[simp] theorem ty_zeroT_27 : zeroT Try.prog 27 = some Go.Value.nilFunc := rfl
@[simp] theorem ty_byT_27 : byT Try.prog 27 = some 8 := rfl
@[simp] theorem ty_aggT_28 : aggT Try.prog 28 = some true := rfl
@[simp] theorem ty_szT_28 : szT Try.prog 28 = some 2 := rfl
@[simp] theorem ty_zeroT_28 : zeroT Try.prog 28 = some (Go.Value.agg #[Go.Value.slice none 0 0, Go.Value.slice none 0 0]) := rfl
@[simp] theorem ty_byT_28 : byT Try.prog 28 = some 48 := rfl
@[simp] theorem ty_placesT_28 : placesT Try.prog 28 = some #[(0, 1), (1, 1)] := by kernel_rfl
@[simp] theorem ty_fldT_28_0 : fldT Try.prog 28 0 = some (0, 1, false) := rfl
@[simp] theorem ty_fldT_28_1 : fldT Try.prog 28 1 = some (1, 1, false) := rfl
@[simp] theorem ty_aggT_29 : aggT Try.prog 29 = some false := rfl
@[simp] theorem ty_szT_29 : szT Try.prog 29 = some 1 := rfl
@[simp] theorem ty_zeroT_29 : zeroT Try.prog 29 = some Go.Value.nilFunc := rfl
@[simp] theorem ty_byT_29 : byT Try.prog 29 = some 8 := rfl
@[simp] theorem ty_aggT_30 : aggT Try.prog 30 = some false := rfl
@[simp] theorem ty_szT_30 : szT Try.prog 30 = some 1 := rfl
@[simp] theorem ty_zeroT_30 : zeroT Try.prog 30 = some Go.Value.nilFunc := rfl
@[simp] theorem ty_byT_30 : byT Try.prog 30 = some 8 := rfl
@[simp] theorem ty_aggT_31 : aggT Try.prog 31 = some false := rfl
@[simp] theorem ty_szT_31 : szT Try.prog 31 = some 1 := rfl
@[simp] theorem ty_zeroT_31 : zeroT Try.prog 31 = some Go.Value.nilFunc := rfl
@[simp] theorem ty_byT_31 : byT Try.prog 31 = some 8 := rfl
@[simp] theorem ty_aggT_32 : aggT Try.prog 32 = some false := rfl
@[simp] theorem ty_szT_32 : szT Try.prog 32 = some 1 := rfl
@[simp] theorem ty_zeroT_32 : zeroT Try.prog 32 = some (Go.Value.tuple #[Go.Value.slice none 0 0, Go.Value.bool false]) := rfl
@[simp] theorem ty_byT_32 : byT Try.prog 32 = some 0 := rfl
@[simp] theorem ty_aggT_33 : aggT Try.prog 33 = some false := rfl
@[simp] theorem ty_szT_33 : szT Try.prog 33 = some 1 := rfl
@[simp] theorem ty_zeroT_33 : zeroT Try.prog 33 = some Go.Value.nilFunc := rfl
@[simp] theorem ty_byT_33 : byT Try.prog 33 = some 8 := rfl
@[simp] theorem ty_aggT_34 : aggT Try.prog 34 = some false := rfl
@[simp] theorem ty_szT_34 : szT Try.prog 34 = some 1 := rfl
@[simp] theorem ty_zeroT_34 : zeroT Try.prog 34 = some Go.Value.nilFunc := rfl
@[simp] theorem ty_byT_34 : byT Try.prog 34 = some 8 := rfl
@[simp] theorem ty_aggT_35 : aggT Try.prog 35 = some false := rfl
@[simp] theorem ty_szT_35 : szT Try.prog 35 = some 1 := rfl
@[simp] theorem ty_zeroT_35 : zeroT Try.prog 35 = some Go.Value.nilFunc := rfl
@[simp] theorem ty_byT_35 : byT Try.prog 35 = some 8 := rfl
@[simp] theorem ty_aggT_36 : aggT Try.prog 36 = some false := rfl
@[simp] theorem ty_szT_36 : szT Try.prog 36 = some 1 := rfl
@[simp] theorem ty_zeroT_36 : zeroT Try.prog 36 = some Go.Value.nilFunc := rfl
@[simp] theorem ty_byT_36 : byT Try.prog 36 = some 8 := rfl
@[simp] theorem ty_aggT_37 : aggT Try.prog 37 = some false := rfl
@[simp] theorem ty_szT_37 : szT Try.prog 37 = some 1 := rfl
@[simp] theorem ty_zeroT_37 : zeroT Try.prog 37 = some (Go.Value.tuple #[Go.Value.bool false, Go.Value.bool false]) := rfl
@[simp] theorem ty_byT_37 : byT Try.prog 37 = some 0 := rfl
@[simp] theorem ty_aggT_38 : aggT Try.prog 38 = some false := rfl
@[simp] theorem ty_szT_38 : szT Try.prog 38 = some 1 := rfl
@[simp] theorem ty_zeroT_38 : zeroT Try.prog 38 = some Go.Value.nilFunc := rfl
@[simp] theorem ty_byT_38 : byT Try.prog 38 = some 8 := rfl
@[simp] theorem ty_aggT_39 : aggT Try.prog 39 = some false := rfl
@[simp] theorem ty_szT_39 : szT Try.prog 39 = some 1 := rfl
@[simp] theorem ty_zeroT_39 : zeroT Try.prog 39 = some Go.Value.nilFunc := rfl
@[simp] theorem ty_byT_39 : byT Try.prog 39 = some 8 := rfl
@[simp] theorem ty_aggT_40 : aggT Try.prog 40 = some false := rfl
@[simp] theorem ty_szT_40 : szT Try.prog 40 = some 1 := rfl
@[simp] theorem ty_zeroT_40 : zeroT Try.prog 40 = some Go.Value.nilFunc := rfl
@[simp] theorem ty_byT_40 : byT Try.prog 40 = some 8 := rfl
@[simp] theorem ty_aggT_41 : aggT Try.prog 41 = some false := rfl
@[simp] theorem ty_szT_41 : szT Try.prog 41 = some 1 := rfl
@[simp] theorem ty_zeroT_41 : zeroT Try.prog 41 = some Go.Value.nilFunc := rfl
@[simp] theorem ty_byT_41 : byT Try.prog 41 = some 8 := rfl
@[simp] theorem ty_aggT_42 : aggT Try.prog 42 = some false := rfl
@[simp] theorem ty_szT_42 : szT Try.prog 42 = some 1 := rfl
@[simp] theorem ty_byT_42 : byT Try.prog 42 = some 0 := rfl
@[simp] theorem ty_aggT_43 : aggT Try.prog 43 = some false := rfl
@[simp] theorem ty_szT_43 : szT Try.prog 43 = some 1 := rfl
@[simp] theorem ty_zeroT_43 : zeroT Try.prog 43 = some Go.Value.nilFunc := rfl
@[simp] theorem ty_byT_43 : byT Try.prog 43 = some 8 := rfl
@[simp] theorem ty_aggT_44 : aggT Try.prog 44 = some false := rfl
@[simp] theorem ty_szT_44 : szT Try.prog 44 = some 1 := rfl
@[simp] theorem ty_zeroT_44 : zeroT Try.prog 44 = some Go.Value.nilFunc := rfl
@[simp] theorem ty_byT_44 : byT Try.prog 44 = some 8 := rfl
@[simp] theorem ty_aggT_45 : aggT Try.prog 45 = some false := rfl
@[simp] theorem ty_szT_45 : szT Try.prog 45 = some 1 := rfl
@[simp] theorem ty_zeroT_45 : zeroT Try.prog 45 = some Go.Value.nilFunc := rfl
@[simp] theorem ty_byT_45 : byT Try.prog 45 = some 8 := rfl
@[simp] theorem ty_aggT_46 : aggT Try.prog 46 = some false := rfl
@[simp] theorem ty_szT_46 : szT Try.prog 46 = some 1 := rfl
@[simp] theorem ty_zeroT_46 : zeroT Try.prog 46 = some Go.Value.nilFunc := rfl
@[simp] theorem ty_byT_46 : byT Try.prog 46 = some 8 := rfl
@[simp] theorem ty_aggT_47 : aggT Try.prog 47 = some false := rfl
@[simp] theorem ty_szT_47 : szT Try.prog 47 = some 1 := rfl
@[simp] theorem ty_zeroT_47 : zeroT Try.prog 47 = some Go.Value.nilFunc := rfl
@[simp] theorem ty_byT_47 : byT Try.prog 47 = some 8 := rfl
@[simp] theorem ty_aggT_48 : aggT Try.prog 48 = some false := rfl
@[simp] theorem ty_szT_48 : szT Try.prog 48 = some 1 := rfl
@[simp] theorem ty_zeroT_48 : zeroT Try.prog 48 = some Go.Value.nilFunc := rfl
@[simp] theorem ty_byT_48 : byT Try.prog 48 = some 8 := rfl
@[simp] theorem ty_aggT_49 : aggT Try.prog 49 = some false := rfl
@[simp] theorem ty_szT_49 : szT Try.prog 49 = some 1 := rfl
@[simp] theorem ty_zeroT_49 : zeroT Try.prog 49 = some Go.Value.nilFunc := rfl
@[simp] theorem ty_byT_49 : byT Try.prog 49 = some 8 := rfl
@[simp] theorem ty_aggT_50 : aggT Try.prog 50 = some false := rfl
@[simp] theorem ty_szT_50 : szT Try.prog 50 = some 1 := rfl
@[simp] theorem ty_zeroT_50 : zeroT Try.prog 50 = some Go.Value.nilFunc := rfl
@[simp] theorem ty_byT_50 : byT Try.prog 50 = some 8 := rfl
@[simp] theorem ty_aggT_51 : aggT Try.prog 51 = some false := rfl
@[simp] theorem ty_szT_51 : szT Try.prog 51 = some 1 := rfl
@[simp] theorem ty_zeroT_51 : zeroT Try.prog 51 = some Go.Value.nilFunc := rfl
@[simp] theorem ty_byT_51 : byT Try.prog 51 = some 8 := rfl
@[simp] theorem ty_aggT_52 : aggT Try.prog 52 = some false := rfl
@[simp] theorem ty_szT_52 : szT Try.prog 52 = some 1 := rfl
@[simp] theorem ty_zeroT_52 : zeroT Try.prog 52 = some Go.Value.nilFunc := rfl
@[simp] theorem ty_byT_52 : byT Try.prog 52 = some 8 := rfl
@[simp] theorem ty_aggT_53 : aggT Try.prog 53 = some false := rfl
@[simp] theorem ty_szT_53 : szT Try.prog 53 = some 1 := rfl
@[simp] theorem ty_zeroT_53 : zeroT Try.prog 53 = some Go.Value.nilFunc := rfl
@[simp] theorem ty_byT_53 : byT Try.prog 53 = some 8 := rfl
@[simp] theorem ty_aggT_54 : aggT Try.prog 54 = some false := rfl
@[simp] theorem ty_szT_54 : szT Try.prog 54 = some 1 := rfl
@[simp] theorem ty_zeroT_54 : zeroT Try.prog 54 = some Go.Value.nilFunc := rfl
@[simp] theorem ty_byT_54 : byT Try.prog 54 = some 8 := rfl
@[simp] theorem ty_aggT_55 : aggT Try.prog 55 = some false := rfl
@[simp] theorem ty_szT_55 : szT Try.prog 55 = some 1 := rfl
@[simp] theorem ty_zeroT_55 : zeroT Try.prog 55 = some (Go.Value.tuple #[Go.Value.slice none 0 0, Go.Value.slice none 0 0, Go.Value.bool false]) := rfl
@[simp] theorem ty_byT_55 : byT Try.prog 55 = some 0 := rfl
@[simp] theorem ty_aggT_56 : aggT Try.prog 56 = some false := rfl
@[simp] theorem ty_szT_56 : szT Try.prog 56 = some 1 := rfl
@[simp] theorem ty_zeroT_56 : zeroT Try.prog 56 = some Go.Value.nilFunc := rfl
@[simp] theorem ty_byT_56 : byT Try.prog 56 = some 8 := rfl
@[simp] theorem ty_aggT_57 : aggT Try.prog 57 = some false := rfl
@[simp] theorem ty_szT_57 : szT Try.prog 57 = some 1 := rfl
@[simp] theorem ty_byT_57 : byT Try.prog 57 = some 0 := rfl
@[simp] theorem ty_aggT_58 : aggT Try.prog 58 = some false := rfl
@[simp] theorem ty_szT_58 : szT Try.prog 58 = some 1 := rfl
@[simp] theorem ty_zeroT_58 : zeroT Try.prog 58 = some Go.Value.nilFunc := rfl
@[simp] theorem ty_byT_58 : byT Try.prog 58 = some 8 := rfl
@[simp] theorem ty_aggT_59 : aggT Try.prog 59 = some false := rfl
@[simp] theorem ty_szT_59 : szT Try.prog 59 = some 1 := rfl
@[simp] theorem ty_zeroT_59 : zeroT Try.prog 59 = some Go.Value.nilFunc := rfl
@[simp] theorem ty_byT_59 : byT Try.prog 59 = some 8 := rfl
@[simp] theorem ty_aggT_60 : aggT Try.prog 60 = some false := rfl
@[simp] theorem ty_szT_60 : szT Try.prog 60 = some 1 := rfl
@[simp] theorem ty_zeroT_60 : zeroT Try.prog 60 = some Go.Value.nilFunc := rfl
@[simp] theorem ty_byT_60 : byT Try.prog 60 = some 8 := rfl
@[simp] theorem ty_aggT_61 : aggT Try.prog 61 = some false := rfl
@[simp] theorem ty_szT_61 : szT Try.prog 61 = some 1 := rfl
@[simp] theorem ty_zeroT_61 : zeroT Try.prog 61 = some Go.Value.nilFunc := rfl
@[simp] theorem ty_byT_61 : byT Try.prog 61 = some 8 := rfl
@[simp] theorem ty_aggT_62 : aggT Try.prog 62 = some false := rfl
@[simp] theorem ty_szT_62 : szT Try.prog 62 = some 1 := rfl
@[simp] theorem ty_zeroT_62 : zeroT Try.prog 62 = some Go.Value.nilFunc := rfl
@[simp] theorem ty_byT_62 : byT Try.prog 62 = some 8 := rfl
@[simp] theorem ty_aggT_63 : aggT Try.prog 63 = some false := rfl
@[simp] theorem ty_szT_63 : szT Try.prog 63 = some 1 := rfl
@[simp] theorem ty_zeroT_63 : zeroT Try.prog 63 = some Go.Value.nilFunc := rfl
@[simp] theorem ty_byT_63 : byT Try.prog 63 = some 8 := rfl
@[simp] theorem ty_aggT_64 : aggT Try.prog 64 = some false := rfl
@[simp] theorem ty_szT_64 : szT Try.prog 64 = some 1 := rfl
@[simp] theorem ty_zeroT_64 : zeroT Try.prog 64 = some Go.Value.nilFunc := rfl
@[simp] theorem ty_byT_64 : byT Try.prog 64 = some 8 := rfl
@[simp] theorem ty_aggT_65 : aggT Try.prog 65 = some false := rfl
@[simp] theorem ty_szT_65 : szT Try.prog 65 = some 1 := rfl
@[simp] theorem ty_zeroT_65 : zeroT Try.prog 65 = some Go.Value.nilFunc := rfl
@[simp] theorem ty_byT_65 : byT Try.prog 65 = some 8 := rfl
@[simp] theorem ty_aggT_66 : aggT Try.prog 66 = some false := rfl
@[simp] theorem ty_szT_66 : szT Try.prog 66 = some 1 := rfl
@[simp] theorem ty_zeroT_66 : zeroT Try.prog 66 = some Go.Value.nilFunc := rfl
@[simp] theorem ty_byT_66 : byT Try.prog 66 = some 8 := rfl
@[simp] theorem ty_aggT_67 : aggT Try.prog 67 = some false := rfl
@[simp] theorem ty_szT_67 : szT Try.prog 67 = some 1 := rfl
@[simp] theorem ty_zeroT_67 : zeroT Try.prog 67 = some Go.Value.nilFunc := rfl
@[simp] theorem ty_byT_67 : byT Try.prog 67 = some 8 := rfl
@[simp] theorem ty_aggT_68 : aggT Try.prog 68 = some false := rfl
@[simp] theorem ty_szT_68 : szT Try.prog 68 = some 1 := rfl
@[simp] theorem ty_zeroT_68 : zeroT Try.prog 68 = some Go.Value.nilFunc := rfl
@[simp] theorem ty_byT_68 : byT Try.prog 68 = some 8 := rfl
@[simp] theorem ty_aggT_69 : aggT Try.prog 69 = some false := rfl
@[simp] theorem ty_szT_69 : szT Try.prog 69 = some 1 := rfl
@[simp] theorem ty_zeroT_69 : zeroT Try.prog 69 = some Go.Value.nilFunc := rfl
@[simp] theorem ty_byT_69 : byT Try.prog 69 = some 8 := rfl
@[simp] theorem ty_aggT_70 : aggT Try.prog 70 = some false := rfl
@[simp] theorem ty_szT_70 : szT Try.prog 70 = some 1 := rfl
@[simp] theorem ty_zeroT_70 : zeroT Try.prog 70 = some Go.Value.nilFunc := rfl
@[simp] theorem ty_byT_70 : byT Try.prog 70 = some 8 := rfl
@[simp] theorem ty_aggT_71 : aggT Try.prog 71 = some false := rfl
@[simp] theorem ty_szT_71 : szT Try.prog 71 = some 1 := rfl
@[simp] theorem ty_zeroT_71 : zeroT Try.prog 71 = some Go.Value.nilFunc := rfl
@[simp] theorem ty_byT_71 : byT Try.prog 71 = some 8 := rfl
@[simp] theorem ty_aggT_72 : aggT Try.prog 72 = some false := rfl
@[simp] theorem ty_szT_72 : szT Try.prog 72 = some 1 := rfl
@[simp] theorem ty_zeroT_72 : zeroT Try.prog 72 = some Go.Value.nilFunc := rfl
@[simp] theorem ty_byT_72 : byT Try.prog 72 = some 8 := rfl
@[simp] theorem ty_aggT_73 : aggT Try.prog 73 = some true := rfl
@[simp] theorem ty_szT_73 : szT Try.prog 73 = some 4 := rfl
@[simp] theorem ty_byT_73 : byT Try.prog 73 = some 40 := rfl
@[simp] theorem ty_placesT_73 : placesT Try.prog 73 = some #[(0, 1), (1, 1), (2, 1), (3, 1)] := by kernel_rfl
@[simp] theorem ty_fldT_73_0 : fldT Try.prog 73 0 = some (0, 1, false) := rfl
@[simp] theorem ty_fldT_73_1 : fldT Try.prog 73 1 = some (1, 1, false) := rfl
@[simp] theorem ty_fldT_73_2 : fldT Try.prog 73 2 = some (2, 1, false) := rfl
@[simp] theorem ty_fldT_73_3 : fldT Try.prog 73 3 = some (3, 1, false) := rfl
@[simp] theorem ty_aggT_74 : aggT Try.prog 74 = some true := rfl
@[simp] theorem ty_szT_74 : szT Try.prog 74 = some 4 := rfl
@[simp] theorem ty_byT_74 : byT Try.prog 74 = some 40 := rfl
@[simp] theorem ty_placesT_74 : placesT Try.prog 74 = some #[(0, 1), (1, 1), (2, 1), (3, 1)] := by kernel_rfl
@[simp] theorem ty_fldT_74_0 : fldT Try.prog 74 0 = some (0, 1, false) := rfl
@[simp] theorem ty_fldT_74_1 : fldT Try.prog 74 1 = some (1, 1, false) := rfl
@[simp] theorem ty_fldT_74_2 : fldT Try.prog 74 2 = some (2, 1, false) := rfl
@[simp] theorem ty_fldT_74_3 : fldT Try.prog 74 3 = some (3, 1, false) := rfl
@[simp] theorem ty_aggT_75 : aggT Try.prog 75 = some true := rfl
@[simp] theorem ty_szT_75 : szT Try.prog 75 = some 0 := rfl
@[simp] theorem ty_zeroT_75 : zeroT Try.prog 75 = some (Go.Value.agg #[]) := rfl
@[simp] theorem ty_byT_75 : byT Try.prog 75 = some 0 := rfl
@[simp] theorem ty_arT_75 : arT Try.prog 75 = some (0, 16) := rfl
@[simp] theorem ty_aggT_76 : aggT Try.prog 76 = some true := rfl
@[simp] theorem ty_szT_76 : szT Try.prog 76 = some 0 := rfl
@[simp] theorem ty_zeroT_76 : zeroT Try.prog 76 = some (Go.Value.agg #[]) := rfl
@[simp] theorem ty_byT_76 : byT Try.prog 76 = some 0 := rfl
@[simp] theorem ty_placesT_76 : placesT Try.prog 76 = some #[(0, 0)] := by kernel_rfl
@[simp] theorem ty_fldT_76_0 : fldT Try.prog 76 0 = some (0, 0, true) := rfl
@[simp] theorem ty_aggT_77 : aggT Try.prog 77 = some true := rfl
@[simp] theorem ty_szT_77 : szT Try.prog 77 = some 0 := rfl
@[simp] theorem ty_zeroT_77 : zeroT Try.prog 77 = some (Go.Value.agg #[]) := rfl
@[simp] theorem ty_byT_77 : byT Try.prog 77 = some 0 := rfl
@[simp] theorem ty_placesT_77 : placesT Try.prog 77 = some #[(0, 0)] := by kernel_rfl
@[simp] theorem ty_fldT_77_0 : fldT Try.prog 77 0 = some (0, 0, true) := rfl
@[simp] theorem ty_aggT_78 : aggT Try.prog 78 = some false := rfl
@[simp] theorem ty_szT_78 : szT Try.prog 78 = some 1 := rfl
@[simp] theorem ty_zeroT_78 : zeroT Try.prog 78 = some Go.Value.nilFunc := rfl
@[simp] theorem ty_byT_78 : byT Try.prog 78 = some 8 := rfl
@[simp] theorem ty_aggT_79 : aggT Try.prog 79 = some false := rfl
@[simp] theorem ty_szT_79 : szT Try.prog 79 = some 1 := rfl
@[simp] theorem ty_zeroT_79 : zeroT Try.prog 79 = some (Go.Value.int Go.IntKind.u32 0) := rfl
@[simp] theorem ty_byT_79 : byT Try.prog 79 = some 4 := rfl
@[simp] theorem ty_inT_79 : inT Try.prog 79 = some Go.IntKind.u32 := rfl
@[simp] theorem ty_aggT_80 : aggT Try.prog 80 = some false := rfl
@[simp] theorem ty_szT_80 : szT Try.prog 80 = some 1 := rfl
@[simp] theorem ty_zeroT_80 : zeroT Try.prog 80 = some (Go.Value.int Go.IntKind.u8 0) := rfl
@[simp] theorem ty_byT_80 : byT Try.prog 80 = some 1 := rfl
@[simp] theorem ty_inT_80 : inT Try.prog 80 = some Go.IntKind.u8 := rfl
@[simp] theorem ty_aggT_81 : aggT Try.prog 81 = some false := rfl
@[simp] theorem ty_szT_81 : szT Try.prog 81 = some 1 := rfl
@[simp] theorem ty_zeroT_81 : zeroT Try.prog 81 = some (Go.Value.int Go.IntKind.u8 0) := rfl
@[simp] theorem ty_byT_81 : byT Try.prog 81 = some 1 := rfl
@[simp] theorem ty_inT_81 : inT Try.prog 81 = some Go.IntKind.u8 := rfl
@[simp] theorem ty_aggT_82 : aggT Try.prog 82 = some false := rfl
@[simp] theorem ty_szT_82 : szT Try.prog 82 = some 1 := rfl
@[simp] theorem ty_zeroT_82 : zeroT Try.prog 82 = some Go.Value.nilFunc := rfl
@[simp] theorem ty_byT_82 : byT Try.prog 82 = some 8 := rfl
@[simp] theorem ty_aggT_83 : aggT Try.prog 83 = some false := rfl
@[simp] theorem ty_szT_83 : szT Try.prog 83 = some 1 := rfl
@[simp] theorem ty_zeroT_83 : zeroT Try.prog 83 = some (Go.Value.pointer none) := rfl
@[simp] theorem ty_byT_83 : byT Try.prog 83 = some 8 := rfl
@[simp] theorem ty_aggT_84 : aggT Try.prog 84 = some false := rfl
@[simp] theorem ty_szT_84 : szT Try.prog 84 = some 1 := rfl
@[simp] theorem ty_zeroT_84 : zeroT Try.prog 84 = some (Go.Value.int Go.IntKind.i32 0) := rfl
@[simp] theorem ty_byT_84 : byT Try.prog 84 = some 4 := rfl
@[simp] theorem ty_inT_84 : inT Try.prog 84 = some Go.IntKind.i32 := rfl
@[simp] theorem ty_aggT_85 : aggT Try.prog 85 = some false := rfl
@[simp] theorem ty_szT_85 : szT Try.prog 85 = some 1 := rfl
@[simp] theorem ty_zeroT_85 : zeroT Try.prog 85 = some (Go.Value.int Go.IntKind.i32 0) := rfl
@[simp] theorem ty_byT_85 : byT Try.prog 85 = some 4 := rfl
@[simp] theorem ty_inT_85 : inT Try.prog 85 = some Go.IntKind.i32 := rfl
@[simp] theorem ty_aggT_86 : aggT Try.prog 86 = some true := rfl
@[simp] theorem ty_szT_86 : szT Try.prog 86 = some 11 := rfl
@[simp] theorem ty_zeroT_86 : zeroT Try.prog 86 = some (Go.Value.agg #[Go.Value.int Go.IntKind.u64 0, Go.Value.int Go.IntKind.u64 0, Go.Value.int Go.IntKind.u32 0, Go.Value.int Go.IntKind.u8 0, Go.Value.int Go.IntKind.u8 0, Go.Value.int Go.IntKind.u8 0, Go.Value.int Go.IntKind.u8 0, Go.Value.nilFunc, Go.Value.pointer none, Go.Value.int Go.IntKind.i32 0, Go.Value.int Go.IntKind.i32 0]) := rfl
@[simp] theorem ty_byT_86 : byT Try.prog 86 = some 48 := rfl
@[simp] theorem ty_placesT_86 : placesT Try.prog 86 = some #[(0, 1), (1, 1), (2, 1), (3, 1), (4, 1), (5, 1), (6, 1), (7, 1), (8, 1), (9, 1), (10, 1)] := by kernel_rfl
@[simp] theorem ty_fldT_86_0 : fldT Try.prog 86 0 = some (0, 1, false) := rfl
@[simp] theorem ty_fldT_86_1 : fldT Try.prog 86 1 = some (1, 1, false) := rfl
@[simp] theorem ty_fldT_86_2 : fldT Try.prog 86 2 = some (2, 1, false) := rfl
@[simp] theorem ty_fldT_86_3 : fldT Try.prog 86 3 = some (3, 1, false) := rfl
@[simp] theorem ty_fldT_86_4 : fldT Try.prog 86 4 = some (4, 1, false) := rfl
@[simp] theorem ty_fldT_86_5 : fldT Try.prog 86 5 = some (5, 1, false) := rfl
@[simp] theorem ty_aggT_87 : aggT Try.prog 87 = some true := rfl
@[simp] theorem ty_szT_87 : szT Try.prog 87 = some 11 := rfl
@[simp] theorem ty_zeroT_87 : zeroT Try.prog 87 = some (Go.Value.agg #[Go.Value.int Go.IntKind.u64 0, Go.Value.int Go.IntKind.u64 0, Go.Value.int Go.IntKind.u32 0, Go.Value.int Go.IntKind.u8 0, Go.Value.int Go.IntKind.u8 0, Go.Value.int Go.IntKind.u8 0, Go.Value.int Go.IntKind.u8 0, Go.Value.nilFunc, Go.Value.pointer none, Go.Value.int Go.IntKind.i32 0, Go.Value.int Go.IntKind.i32 0]) := rfl
@[simp] theorem ty_byT_87 : byT Try.prog 87 = some 48 := rfl
@[simp] theorem ty_placesT_87 : placesT Try.prog 87 = some #[(0, 1), (1, 1), (2, 1), (3, 1), (4, 1), (5, 1), (6, 1), (7, 1), (8, 1), (9, 1), (10, 1)] := by kernel_rfl
@[simp] theorem ty_fldT_87_0 : fldT Try.prog 87 0 = some (0, 1, false) := rfl
@[simp] theorem ty_fldT_87_1 : fldT Try.prog 87 1 = some (1, 1, false) := rfl
@[simp] theorem ty_fldT_87_2 : fldT Try.prog 87 2 = some (2, 1, false) := rfl
@[simp] theorem ty_fldT_87_3 : fldT Try.prog 87 3 = some (3, 1, false) := rfl
@[simp] theorem ty_fldT_87_4 : fldT Try.prog 87 4 = some (4, 1, false) := rfl
@[simp] theorem ty_fldT_87_5 : fldT Try.prog 87 5 = some (5, 1, false) := rfl
@[simp] theorem ty_aggT_88 : aggT Try.prog 88 = some false := rfl
@[simp] theorem ty_szT_88 : szT Try.prog 88 = some 1 := rfl
@[simp] theorem ty_zeroT_88 : zeroT Try.prog 88 = some (Go.Value.pointer none) := rfl
@[simp] theorem ty_byT_88 : byT Try.prog 88 = some 8 := rfl

end Go.Proofs.Ytdadnaliiegceaa
