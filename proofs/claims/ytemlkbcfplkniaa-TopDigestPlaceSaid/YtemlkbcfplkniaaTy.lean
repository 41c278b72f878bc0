/- Closed facts on the types of the translation. -/
import Derived.Test.YtemlkbcfplkniaaProg
import Derived.Test.YtemlkbcfplkniaaAmA
import Derived.KernelRfl
namespace Go.Proofs.Ytemlkbcfplkniaa.Am
open Go Go.Proofs
theorem sz_1 : szOf Try.prog 1 = some 1 := by kernel_rfl
theorem agg_1 : aggOf Try.prog 1 = some false := by kernel_rfl
theorem zero_1 : zeroOf Try.prog 1 = some [.nilFunc] := by kernel_rfl
theorem bytes_1 : bytesOf Try.prog 1 = some 8 := by kernel_rfl
attribute [simp] sz_1 agg_1 zero_1 bytes_1
theorem sz_2 : szOf Try.prog 2 = some 1 := by kernel_rfl
theorem agg_2 : aggOf Try.prog 2 = some false := by kernel_rfl
theorem zero_2 : zeroOf Try.prog 2 = some [.int .i64 0] := by kernel_rfl
theorem bytes_2 : bytesOf Try.prog 2 = some 8 := by kernel_rfl
theorem int_2 : intOfT Try.prog 2 = some .i64 := by kernel_rfl
theorem und_2 : (Try.prog.underlying 2).isSome = true := by kernel_rfl
attribute [simp] sz_2 agg_2 zero_2 bytes_2 int_2 und_2
theorem sz_3 : szOf Try.prog 3 = some 1 := by kernel_rfl
theorem agg_3 : aggOf Try.prog 3 = some false := by kernel_rfl
theorem zero_3 : zeroOf Try.prog 3 = some [.int .i64 0] := by kernel_rfl
theorem bytes_3 : bytesOf Try.prog 3 = some 8 := by kernel_rfl
theorem int_3 : intOfT Try.prog 3 = some .i64 := by kernel_rfl
theorem und_3 : (Try.prog.underlying 3).isSome = true := by kernel_rfl
attribute [simp] sz_3 agg_3 zero_3 bytes_3 int_3 und_3
theorem sz_4 : szOf Try.prog 4 = some 1 := by kernel_rfl
theorem agg_4 : aggOf Try.prog 4 = some false := by kernel_rfl
theorem zero_4 : zeroOf Try.prog 4 = some [.bool false] := by kernel_rfl
theorem bytes_4 : bytesOf Try.prog 4 = some 1 := by kernel_rfl
theorem bool_4 : isBool Try.prog 4 = true := by kernel_rfl
attribute [simp] sz_4 agg_4 zero_4 bytes_4 bool_4
theorem sz_5 : szOf Try.prog 5 = some 1 := by kernel_rfl
theorem agg_5 : aggOf Try.prog 5 = some false := by kernel_rfl
theorem zero_5 : zeroOf Try.prog 5 = some [.int .u8 0] := by kernel_rfl
theorem bytes_5 : bytesOf Try.prog 5 = some 1 := by kernel_rfl
theorem int_5 : intOfT Try.prog 5 = some .u8 := by kernel_rfl
theorem und_5 : (Try.prog.underlying 5).isSome = true := by kernel_rfl
attribute [simp] sz_5 agg_5 zero_5 bytes_5 int_5 und_5
theorem sz_6 : szOf Try.prog 6 = some 1 := by kernel_rfl
theorem agg_6 : aggOf Try.prog 6 = some false := by kernel_rfl
theorem zero_6 : zeroOf Try.prog 6 = some [.int .u8 0] := by kernel_rfl
theorem bytes_6 : bytesOf Try.prog 6 = some 1 := by kernel_rfl
theorem int_6 : intOfT Try.prog 6 = some .u8 := by kernel_rfl
theorem und_6 : (Try.prog.underlying 6).isSome = true := by kernel_rfl
attribute [simp] sz_6 agg_6 zero_6 bytes_6 int_6 und_6
theorem sz_7 : szOf Try.prog 7 = some 4 := by kernel_rfl
theorem agg_7 : aggOf Try.prog 7 = some true := by kernel_rfl
theorem zero_7 : zeroOf Try.prog 7 = some [.int .i64 0, .int .i64 0, .bool false, .int .u8 0] := by kernel_rfl
theorem bytes_7 : bytesOf Try.prog 7 = some 24 := by kernel_rfl
theorem field_7x0 : fieldOf Try.prog 7 0 = some (2, 0) := by kernel_rfl
theorem field_7x1 : fieldOf Try.prog 7 1 = some (3, 1) := by kernel_rfl
theorem field_7x2 : fieldOf Try.prog 7 2 = some (4, 2) := by kernel_rfl
theorem field_7x3 : fieldOf Try.prog 7 3 = some (6, 3) := by kernel_rfl
theorem places_7 : placesOf Try.prog 7 = some [(0, 1), (1, 1), (2, 1), (3, 1)] := by kernel_rfl
attribute [simp] sz_7 agg_7 zero_7 bytes_7 field_7x0 field_7x1 field_7x2 field_7x3 places_7
theorem sz_8 : szOf Try.prog 8 = some 4 := by kernel_rfl
theorem agg_8 : aggOf Try.prog 8 = some true := by kernel_rfl
theorem zero_8 : zeroOf Try.prog 8 = some [.int .i64 0, .int .i64 0, .bool false, .int .u8 0] := by kernel_rfl
theorem bytes_8 : bytesOf Try.prog 8 = some 24 := by kernel_rfl
theorem field_8x0 : fieldOf Try.prog 8 0 = some (2, 0) := by kernel_rfl
theorem field_8x1 : fieldOf Try.prog 8 1 = some (3, 1) := by kernel_rfl
theorem field_8x2 : fieldOf Try.prog 8 2 = some (4, 2) := by kernel_rfl
theorem field_8x3 : fieldOf Try.prog 8 3 = some (6, 3) := by kernel_rfl
theorem places_8 : placesOf Try.prog 8 = some [(0, 1), (1, 1), (2, 1), (3, 1)] := by kernel_rfl
attribute [simp] sz_8 agg_8 zero_8 bytes_8 field_8x0 field_8x1 field_8x2 field_8x3 places_8
theorem sz_9 : szOf Try.prog 9 = some 1 := by kernel_rfl
theorem agg_9 : aggOf Try.prog 9 = some false := by kernel_rfl
theorem zero_9 : zeroOf Try.prog 9 = some [.string ⟨#[]⟩] := by kernel_rfl
theorem bytes_9 : bytesOf Try.prog 9 = some 16 := by kernel_rfl
theorem str_9 : isStr Try.prog 9 = true := by kernel_rfl
attribute [simp] sz_9 agg_9 zero_9 bytes_9 str_9
theorem sz_10 : szOf Try.prog 10 = some 1 := by kernel_rfl
theorem agg_10 : aggOf Try.prog 10 = some false := by kernel_rfl
theorem zero_10 : zeroOf Try.prog 10 = some [.string ⟨#[]⟩] := by kernel_rfl
theorem bytes_10 : bytesOf Try.prog 10 = some 16 := by kernel_rfl
theorem str_10 : isStr Try.prog 10 = true := by kernel_rfl
attribute [simp] sz_10 agg_10 zero_10 bytes_10 str_10
theorem sz_11 : szOf Try.prog 11 = some 1 := by kernel_rfl
theorem agg_11 : aggOf Try.prog 11 = some false := by kernel_rfl
theorem zero_11 : zeroOf Try.prog 11 = some [.string ⟨#[]⟩] := by kernel_rfl
theorem bytes_11 : bytesOf Try.prog 11 = some 16 := by kernel_rfl
theorem str_11 : isStr Try.prog 11 = true := by kernel_rfl
attribute [simp] sz_11 agg_11 zero_11 bytes_11 str_11
theorem sz_12 : szOf Try.prog 12 = some 1 := by kernel_rfl
theorem agg_12 : aggOf Try.prog 12 = some false := by kernel_rfl
theorem zero_12 : zeroOf Try.prog 12 = some [.int .u64 0] := by kernel_rfl
theorem bytes_12 : bytesOf Try.prog 12 = some 8 := by kernel_rfl
theorem int_12 : intOfT Try.prog 12 = some .u64 := by kernel_rfl
theorem und_12 : (Try.prog.underlying 12).isSome = true := by kernel_rfl
attribute [simp] sz_12 agg_12 zero_12 bytes_12 int_12 und_12
theorem sz_13 : szOf Try.prog 13 = some 2 := by kernel_rfl
theorem agg_13 : aggOf Try.prog 13 = some true := by kernel_rfl
theorem zero_13 : zeroOf Try.prog 13 = some [.string ⟨#[]⟩, .int .u64 0] := by kernel_rfl
theorem bytes_13 : bytesOf Try.prog 13 = some 24 := by kernel_rfl
theorem field_13x0 : fieldOf Try.prog 13 0 = some (9, 0) := by kernel_rfl
theorem field_13x1 : fieldOf Try.prog 13 1 = some (12, 1) := by kernel_rfl
theorem places_13 : placesOf Try.prog 13 = some [(0, 1), (1, 1)] := by kernel_rfl
attribute [simp] sz_13 agg_13 zero_13 bytes_13 field_13x0 field_13x1 places_13
theorem sz_14 : szOf Try.prog 14 = some 2 := by kernel_rfl
theorem agg_14 : aggOf Try.prog 14 = some true := by kernel_rfl
theorem zero_14 : zeroOf Try.prog 14 = some [.string ⟨#[]⟩, .int .u64 0] := by kernel_rfl
theorem bytes_14 : bytesOf Try.prog 14 = some 24 := by kernel_rfl
theorem field_14x0 : fieldOf Try.prog 14 0 = some (9, 0) := by kernel_rfl
theorem field_14x1 : fieldOf Try.prog 14 1 = some (12, 1) := by kernel_rfl
theorem places_14 : placesOf Try.prog 14 = some [(0, 1), (1, 1)] := by kernel_rfl
attribute [simp] sz_14 agg_14 zero_14 bytes_14 field_14x0 field_14x1 places_14
theorem sz_15 : szOf Try.prog 15 = some 1 := by kernel_rfl
theorem agg_15 : aggOf Try.prog 15 = some false := by kernel_rfl
theorem zero_15 : zeroOf Try.prog 15 = some [.pointer none] := by kernel_rfl
theorem bytes_15 : bytesOf Try.prog 15 = some 8 := by kernel_rfl
theorem ptr_15 : isPtr Try.prog 15 = true := by kernel_rfl
attribute [simp] sz_15 agg_15 zero_15 bytes_15 ptr_15
theorem sz_16 : szOf Try.prog 16 = some 1 := by kernel_rfl
theorem agg_16 : aggOf Try.prog 16 = some false := by kernel_rfl
theorem zero_16 : zeroOf Try.prog 16 = some [.pointer none] := by kernel_rfl
theorem bytes_16 : bytesOf Try.prog 16 = some 8 := by kernel_rfl
theorem ptr_16 : isPtr Try.prog 16 = true := by kernel_rfl
attribute [simp] sz_16 agg_16 zero_16 bytes_16 ptr_16
theorem sz_17 : szOf Try.prog 17 = some 1 := by kernel_rfl
theorem agg_17 : aggOf Try.prog 17 = some false := by kernel_rfl
theorem zero_17 : zeroOf Try.prog 17 = some [.pointer none] := by kernel_rfl
theorem bytes_17 : bytesOf Try.prog 17 = some 8 := by kernel_rfl
theorem ptr_17 : isPtr Try.prog 17 = true := by kernel_rfl
attribute [simp] sz_17 agg_17 zero_17 bytes_17 ptr_17
theorem sz_18 : szOf Try.prog 18 = some 1 := by kernel_rfl
theorem agg_18 : aggOf Try.prog 18 = some true := by kernel_rfl
theorem zero_18 : zeroOf Try.prog 18 = some [.pointer none] := by kernel_rfl
theorem bytes_18 : bytesOf Try.prog 18 = some 8 := by kernel_rfl
theorem field_18x0 : fieldOf Try.prog 18 0 = some (17, 0) := by kernel_rfl
theorem places_18 : placesOf Try.prog 18 = some [(0, 1)] := by kernel_rfl
attribute [simp] sz_18 agg_18 zero_18 bytes_18 field_18x0 places_18
theorem sz_19 : szOf Try.prog 19 = some 1 := by kernel_rfl
theorem agg_19 : aggOf Try.prog 19 = some true := by kernel_rfl
theorem zero_19 : zeroOf Try.prog 19 = some [.pointer none] := by kernel_rfl
theorem bytes_19 : bytesOf Try.prog 19 = some 8 := by kernel_rfl
theorem field_19x0 : fieldOf Try.prog 19 0 = some (17, 0) := by kernel_rfl
theorem places_19 : placesOf Try.prog 19 = some [(0, 1)] := by kernel_rfl
attribute [simp] sz_19 agg_19 zero_19 bytes_19 field_19x0 places_19
theorem sz_20 : szOf Try.prog 20 = some 1 := by kernel_rfl
theorem agg_20 : aggOf Try.prog 20 = some false := by kernel_rfl
attribute [simp] sz_20 agg_20
theorem sz_21 : szOf Try.prog 21 = some 1 := by kernel_rfl
theorem agg_21 : aggOf Try.prog 21 = some false := by kernel_rfl
theorem zero_21 : zeroOf Try.prog 21 = some [.int .i32 0] := by kernel_rfl
theorem bytes_21 : bytesOf Try.prog 21 = some 4 := by kernel_rfl
theorem int_21 : intOfT Try.prog 21 = some .i32 := by kernel_rfl
theorem und_21 : (Try.prog.underlying 21).isSome = true := by kernel_rfl
attribute [simp] sz_21 agg_21 zero_21 bytes_21 int_21 und_21
theorem sz_22 : szOf Try.prog 22 = some 1 := by kernel_rfl
theorem agg_22 : aggOf Try.prog 22 = some false := by kernel_rfl
theorem zero_22 : zeroOf Try.prog 22 = some [.slice none 0 0] := by kernel_rfl
theorem bytes_22 : bytesOf Try.prog 22 = some 24 := by kernel_rfl
theorem elem_22 : elemOf Try.prog 22 = some 3 := by kernel_rfl
attribute [simp] sz_22 agg_22 zero_22 bytes_22 elem_22
theorem sz_23 : szOf Try.prog 23 = some 1 := by kernel_rfl
theorem agg_23 : aggOf Try.prog 23 = some false := by kernel_rfl
theorem zero_23 : zeroOf Try.prog 23 = some [.slice none 0 0] := by kernel_rfl
theorem bytes_23 : bytesOf Try.prog 23 = some 24 := by kernel_rfl
theorem elem_23 : elemOf Try.prog 23 = some 73 := by kernel_rfl
attribute [simp] sz_23 agg_23 zero_23 bytes_23 elem_23
theorem sz_24 : szOf Try.prog 24 = some 1 := by kernel_rfl
theorem agg_24 : aggOf Try.prog 24 = some false := by kernel_rfl
theorem zero_24 : zeroOf Try.prog 24 = some [.slice none 0 0] := by kernel_rfl
theorem bytes_24 : bytesOf Try.prog 24 = some 24 := by kernel_rfl
theorem elem_24 : elemOf Try.prog 24 = some 41 := by kernel_rfl
attribute [simp] sz_24 agg_24 zero_24 bytes_24 elem_24
theorem sz_25 : szOf Try.prog 25 = some 3 := by kernel_rfl
theorem agg_25 : aggOf Try.prog 25 = some true := by kernel_rfl
theorem zero_25 : zeroOf Try.prog 25 = some [.slice none 0 0, .slice none 0 0, .slice none 0 0] := by kernel_rfl
theorem bytes_25 : bytesOf Try.prog 25 = some 72 := by kernel_rfl
theorem field_25x0 : fieldOf Try.prog 25 0 = some (23, 0) := by kernel_rfl
theorem field_25x1 : fieldOf Try.prog 25 1 = some (22, 1) := by kernel_rfl
theorem field_25x2 : fieldOf Try.prog 25 2 = some (24, 2) := by kernel_rfl
theorem places_25 : placesOf Try.prog 25 = some [(0, 1), (1, 1), (2, 1)] := by kernel_rfl
attribute [simp] sz_25 agg_25 zero_25 bytes_25 field_25x0 field_25x1 field_25x2 places_25
theorem sz_26 : szOf Try.prog 26 = some 3 := by kernel_rfl
theorem agg_26 : aggOf Try.prog 26 = some true := by kernel_rfl
theorem zero_26 : zeroOf Try.prog 26 = some [.slice none 0 0, .slice none 0 0, .slice none 0 0] := by kernel_rfl
theorem bytes_26 : bytesOf Try.prog 26 = some 72 := by kernel_rfl
theorem field_26x0 : fieldOf Try.prog 26 0 = some (23, 0) := by kernel_rfl
theorem field_26x1 : fieldOf Try.prog 26 1 = some (22, 1) := by kernel_rfl
theorem field_26x2 : fieldOf Try.prog 26 2 = some (24, 2) := by kernel_rfl
theorem places_26 : placesOf Try.prog 26 = some [(0, 1), (1, 1), (2, 1)] := by kernel_rfl
attribute [simp] sz_26 agg_26 zero_26 bytes_26 field_26x0 field_26x1 field_26x2 places_26
theorem sz_27 : szOf Try.prog 27 = some 1 := by kernel_rfl
theorem agg_27 : aggOf Try.prog 27 = some false := by kernel_rfl
theorem zero_27 : zeroOf Try.prog 27 = some [.nilFunc] := by kernel_rfl
theorem bytes_27 : bytesOf Try.prog 27 = some 8 := by kernel_rfl
attribute [simp] sz_27 agg_27 zero_27 bytes_27
theorem sz_28 : szOf Try.prog 28 = some 1 := by kernel_rfl
theorem agg_28 : aggOf Try.prog 28 = some false := by kernel_rfl
theorem zero_28 : zeroOf Try.prog 28 = some [.nilFunc] := by kernel_rfl
theorem bytes_28 : bytesOf Try.prog 28 = some 8 := by kernel_rfl
attribute [simp] sz_28 agg_28 zero_28 bytes_28
theorem sz_29 : szOf Try.prog 29 = some 1 := by kernel_rfl
theorem agg_29 : aggOf Try.prog 29 = some false := by kernel_rfl
theorem zero_29 : zeroOf Try.prog 29 = some [.nilFunc] := by kernel_rfl
theorem bytes_29 : bytesOf Try.prog 29 = some 8 := by kernel_rfl
attribute [simp] sz_29 agg_29 zero_29 bytes_29
theorem sz_30 : szOf Try.prog 30 = some 1 := by kernel_rfl
theorem agg_30 : aggOf Try.prog 30 = some false := by kernel_rfl
theorem zero_30 : zeroOf Try.prog 30 = some [.nilFunc] := by kernel_rfl
theorem bytes_30 : bytesOf Try.prog 30 = some 8 := by kernel_rfl
attribute [simp] sz_30 agg_30 zero_30 bytes_30
theorem sz_31 : szOf Try.prog 31 = some 1 := by kernel_rfl
theorem agg_31 : aggOf Try.prog 31 = some false := by kernel_rfl
theorem zero_31 : zeroOf Try.prog 31 = some [.nilFunc] := by kernel_rfl
theorem bytes_31 : bytesOf Try.prog 31 = some 8 := by kernel_rfl
attribute [simp] sz_31 agg_31 zero_31 bytes_31
theorem sz_32 : szOf Try.prog 32 = some 1 := by kernel_rfl
theorem agg_32 : aggOf Try.prog 32 = some false := by kernel_rfl
theorem zero_32 : zeroOf Try.prog 32 = some [.nilFunc] := by kernel_rfl
theorem bytes_32 : bytesOf Try.prog 32 = some 8 := by kernel_rfl
attribute [simp] sz_32 agg_32 zero_32 bytes_32
theorem sz_33 : szOf Try.prog 33 = some 1 := by kernel_rfl
theorem agg_33 : aggOf Try.prog 33 = some false := by kernel_rfl
theorem zero_33 : zeroOf Try.prog 33 = some [.nilFunc] := by kernel_rfl
theorem bytes_33 : bytesOf Try.prog 33 = some 8 := by kernel_rfl
attribute [simp] sz_33 agg_33 zero_33 bytes_33
theorem sz_35 : szOf Try.prog 35 = some 1 := by kernel_rfl
theorem agg_35 : aggOf Try.prog 35 = some false := by kernel_rfl
theorem zero_35 : zeroOf Try.prog 35 = some [.nilFunc] := by kernel_rfl
theorem bytes_35 : bytesOf Try.prog 35 = some 8 := by kernel_rfl
attribute [simp] sz_35 agg_35 zero_35 bytes_35
theorem sz_36 : szOf Try.prog 36 = some 1 := by kernel_rfl
theorem agg_36 : aggOf Try.prog 36 = some false := by kernel_rfl
theorem zero_36 : zeroOf Try.prog 36 = some [.map none] := by kernel_rfl
theorem bytes_36 : bytesOf Try.prog 36 = some 8 := by kernel_rfl
theorem mapkv_36 : mapKV Try.prog 36 = some (.i64, 4) := by kernel_rfl
theorem zeropv_4 : zeroPV Try.prog 4 = some (.k (.bool false)) := by kernel_rfl
attribute [simp] sz_36 agg_36 zero_36 bytes_36 mapkv_36 zeropv_4
theorem sz_37 : szOf Try.prog 37 = some 2 := by kernel_rfl
theorem agg_37 : aggOf Try.prog 37 = some true := by kernel_rfl
theorem zero_37 : zeroOf Try.prog 37 = some [.int .i64 0, .int .i64 0] := by kernel_rfl
theorem bytes_37 : bytesOf Try.prog 37 = some 16 := by kernel_rfl
theorem eqf_37 : eqfOf Try.prog 37 = some [(3, 0), (3, 1)] := by kernel_rfl
theorem ng_37 : noGuard Try.prog 37 = true := by kernel_rfl
theorem field_37x0 : fieldOf Try.prog 37 0 = some (3, 0) := by kernel_rfl
theorem field_37x1 : fieldOf Try.prog 37 1 = some (3, 1) := by kernel_rfl
theorem places_37 : placesOf Try.prog 37 = some [(0, 1), (1, 1)] := by kernel_rfl
attribute [simp] sz_37 agg_37 zero_37 bytes_37 eqf_37 ng_37 field_37x0 field_37x1 places_37
theorem sz_38 : szOf Try.prog 38 = some 2 := by kernel_rfl
theorem agg_38 : aggOf Try.prog 38 = some true := by kernel_rfl
theorem zero_38 : zeroOf Try.prog 38 = some [.int .i64 0, .int .i64 0] := by kernel_rfl
theorem bytes_38 : bytesOf Try.prog 38 = some 16 := by kernel_rfl
theorem eqf_38 : eqfOf Try.prog 38 = some [(3, 0), (3, 1)] := by kernel_rfl
theorem ng_38 : noGuard Try.prog 38 = true := by kernel_rfl
theorem field_38x0 : fieldOf Try.prog 38 0 = some (3, 0) := by kernel_rfl
theorem field_38x1 : fieldOf Try.prog 38 1 = some (3, 1) := by kernel_rfl
theorem places_38 : placesOf Try.prog 38 = some [(0, 1), (1, 1)] := by kernel_rfl
attribute [simp] sz_38 agg_38 zero_38 bytes_38 eqf_38 ng_38 field_38x0 field_38x1 places_38
theorem sz_39 : szOf Try.prog 39 = some 1 := by kernel_rfl
theorem agg_39 : aggOf Try.prog 39 = some false := by kernel_rfl
theorem zero_39 : zeroOf Try.prog 39 = some [.slice none 0 0] := by kernel_rfl
theorem bytes_39 : bytesOf Try.prog 39 = some 24 := by kernel_rfl
theorem elem_39 : elemOf Try.prog 39 = some 70 := by kernel_rfl
attribute [simp] sz_39 agg_39 zero_39 bytes_39 elem_39
theorem sz_40 : szOf Try.prog 40 = some 3 := by kernel_rfl
theorem agg_40 : aggOf Try.prog 40 = some true := by kernel_rfl
theorem zero_40 : zeroOf Try.prog 40 = some [.int .i64 0, .int .i64 0, .slice none 0 0] := by kernel_rfl
theorem bytes_40 : bytesOf Try.prog 40 = some 40 := by kernel_rfl
theorem field_40x0 : fieldOf Try.prog 40 0 = some (38, 0) := by kernel_rfl
theorem field_40x1 : fieldOf Try.prog 40 1 = some (39, 2) := by kernel_rfl
theorem places_40 : placesOf Try.prog 40 = some [(0, 2), (2, 1)] := by kernel_rfl
attribute [simp] sz_40 agg_40 zero_40 bytes_40 field_40x0 field_40x1 places_40
theorem sz_41 : szOf Try.prog 41 = some 3 := by kernel_rfl
theorem agg_41 : aggOf Try.prog 41 = some true := by kernel_rfl
theorem zero_41 : zeroOf Try.prog 41 = some [.int .i64 0, .int .i64 0, .slice none 0 0] := by kernel_rfl
theorem bytes_41 : bytesOf Try.prog 41 = some 40 := by kernel_rfl
theorem field_41x0 : fieldOf Try.prog 41 0 = some (38, 0) := by kernel_rfl
theorem field_41x1 : fieldOf Try.prog 41 1 = some (39, 2) := by kernel_rfl
theorem places_41 : placesOf Try.prog 41 = some [(0, 2), (2, 1)] := by kernel_rfl
attribute [simp] sz_41 agg_41 zero_41 bytes_41 field_41x0 field_41x1 places_41
theorem sz_42 : szOf Try.prog 42 = some 1 := by kernel_rfl
theorem agg_42 : aggOf Try.prog 42 = some false := by kernel_rfl
theorem zero_42 : zeroOf Try.prog 42 = some [.nilFunc] := by kernel_rfl
theorem bytes_42 : bytesOf Try.prog 42 = some 8 := by kernel_rfl
attribute [simp] sz_42 agg_42 zero_42 bytes_42
theorem sz_43 : szOf Try.prog 43 = some 1 := by kernel_rfl
theorem agg_43 : aggOf Try.prog 43 = some false := by kernel_rfl
theorem zero_43 : zeroOf Try.prog 43 = some [.pointer none] := by kernel_rfl
theorem bytes_43 : bytesOf Try.prog 43 = some 8 := by kernel_rfl
theorem ptr_43 : isPtr Try.prog 43 = true := by kernel_rfl
attribute [simp] sz_43 agg_43 zero_43 bytes_43 ptr_43
theorem sz_44 : szOf Try.prog 44 = some 1 := by kernel_rfl
theorem agg_44 : aggOf Try.prog 44 = some false := by kernel_rfl
theorem zero_44 : zeroOf Try.prog 44 = some [.nilFunc] := by kernel_rfl
theorem bytes_44 : bytesOf Try.prog 44 = some 8 := by kernel_rfl
attribute [simp] sz_44 agg_44 zero_44 bytes_44
theorem sz_45 : szOf Try.prog 45 = some 1 := by kernel_rfl
theorem agg_45 : aggOf Try.prog 45 = some false := by kernel_rfl
theorem zero_45 : zeroOf Try.prog 45 = some [.int .i64 0] := by kernel_rfl
theorem bytes_45 : bytesOf Try.prog 45 = some 8 := by kernel_rfl
theorem int_45 : intOfT Try.prog 45 = some .i64 := by kernel_rfl
theorem und_45 : (Try.prog.underlying 45).isSome = true := by kernel_rfl
attribute [simp] sz_45 agg_45 zero_45 bytes_45 int_45 und_45
theorem sz_46 : szOf Try.prog 46 = some 1 := by kernel_rfl
theorem agg_46 : aggOf Try.prog 46 = some false := by kernel_rfl
theorem zero_46 : zeroOf Try.prog 46 = some [.nilFunc] := by kernel_rfl
theorem bytes_46 : bytesOf Try.prog 46 = some 8 := by kernel_rfl
attribute [simp] sz_46 agg_46 zero_46 bytes_46
theorem sz_47 : szOf Try.prog 47 = some 1 := by kernel_rfl
theorem agg_47 : aggOf Try.prog 47 = some false := by kernel_rfl
theorem zero_47 : zeroOf Try.prog 47 = some [.nilFunc] := by kernel_rfl
theorem bytes_47 : bytesOf Try.prog 47 = some 8 := by kernel_rfl
attribute [simp] sz_47 agg_47 zero_47 bytes_47
theorem sz_48 : szOf Try.prog 48 = some 1 := by kernel_rfl
theorem agg_48 : aggOf Try.prog 48 = some false := by kernel_rfl
theorem zero_48 : zeroOf Try.prog 48 = some [.nilFunc] := by kernel_rfl
theorem bytes_48 : bytesOf Try.prog 48 = some 8 := by kernel_rfl
attribute [simp] sz_48 agg_48 zero_48 bytes_48
theorem sz_49 : szOf Try.prog 49 = some 1 := by kernel_rfl
theorem agg_49 : aggOf Try.prog 49 = some false := by kernel_rfl
theorem zero_49 : zeroOf Try.prog 49 = some [.map none] := by kernel_rfl
theorem bytes_49 : bytesOf Try.prog 49 = some 8 := by kernel_rfl
theorem mapkv_49 : mapKV Try.prog 49 = some (.i64, 3) := by kernel_rfl
theorem zeropv_3 : zeroPV Try.prog 3 = some (.k (.int .i64 0)) := by kernel_rfl
attribute [simp] sz_49 agg_49 zero_49 bytes_49 mapkv_49 zeropv_3
theorem sz_50 : szOf Try.prog 50 = some 1 := by kernel_rfl
theorem agg_50 : aggOf Try.prog 50 = some false := by kernel_rfl
theorem zero_50 : zeroOf Try.prog 50 = some [.nilFunc] := by kernel_rfl
theorem bytes_50 : bytesOf Try.prog 50 = some 8 := by kernel_rfl
attribute [simp] sz_50 agg_50 zero_50 bytes_50
theorem sz_51 : szOf Try.prog 51 = some 1 := by kernel_rfl
theorem agg_51 : aggOf Try.prog 51 = some false := by kernel_rfl
theorem zero_51 : zeroOf Try.prog 51 = some [.nilFunc] := by kernel_rfl
theorem bytes_51 : bytesOf Try.prog 51 = some 8 := by kernel_rfl
attribute [simp] sz_51 agg_51 zero_51 bytes_51
theorem sz_52 : szOf Try.prog 52 = some 1 := by kernel_rfl
theorem agg_52 : aggOf Try.prog 52 = some false := by kernel_rfl
theorem zero_52 : zeroOf Try.prog 52 = some [.nilFunc] := by kernel_rfl
theorem bytes_52 : bytesOf Try.prog 52 = some 8 := by kernel_rfl
attribute [simp] sz_52 agg_52 zero_52 bytes_52
theorem sz_53 : szOf Try.prog 53 = some 1 := by kernel_rfl
theorem agg_53 : aggOf Try.prog 53 = some false := by kernel_rfl
theorem zero_53 : zeroOf Try.prog 53 = some [.slice none 0 0] := by kernel_rfl
theorem bytes_53 : bytesOf Try.prog 53 = some 24 := by kernel_rfl
theorem elem_53 : elemOf Try.prog 53 = some 5 := by kernel_rfl
attribute [simp] sz_53 agg_53 zero_53 bytes_53 elem_53
theorem sz_54 : szOf Try.prog 54 = some 1 := by kernel_rfl
theorem agg_54 : aggOf Try.prog 54 = some false := by kernel_rfl
theorem zero_54 : zeroOf Try.prog 54 = some [.nilFunc] := by kernel_rfl
theorem bytes_54 : bytesOf Try.prog 54 = some 8 := by kernel_rfl
attribute [simp] sz_54 agg_54 zero_54 bytes_54
theorem sz_56 : szOf Try.prog 56 = some 1 := by kernel_rfl
theorem agg_56 : aggOf Try.prog 56 = some false := by kernel_rfl
theorem zero_56 : zeroOf Try.prog 56 = some [.nilFunc] := by kernel_rfl
theorem bytes_56 : bytesOf Try.prog 56 = some 8 := by kernel_rfl
attribute [simp] sz_56 agg_56 zero_56 bytes_56
theorem sz_58 : szOf Try.prog 58 = some 1 := by kernel_rfl
theorem agg_58 : aggOf Try.prog 58 = some false := by kernel_rfl
theorem zero_58 : zeroOf Try.prog 58 = some [.nilFunc] := by kernel_rfl
theorem bytes_58 : bytesOf Try.prog 58 = some 8 := by kernel_rfl
attribute [simp] sz_58 agg_58 zero_58 bytes_58
theorem sz_59 : szOf Try.prog 59 = some 1 := by kernel_rfl
theorem agg_59 : aggOf Try.prog 59 = some false := by kernel_rfl
theorem zero_59 : zeroOf Try.prog 59 = some [.nilFunc] := by kernel_rfl
theorem bytes_59 : bytesOf Try.prog 59 = some 8 := by kernel_rfl
attribute [simp] sz_59 agg_59 zero_59 bytes_59
theorem sz_61 : szOf Try.prog 61 = some 1 := by kernel_rfl
theorem agg_61 : aggOf Try.prog 61 = some false := by kernel_rfl
theorem zero_61 : zeroOf Try.prog 61 = some [.nilFunc] := by kernel_rfl
theorem bytes_61 : bytesOf Try.prog 61 = some 8 := by kernel_rfl
attribute [simp] sz_61 agg_61 zero_61 bytes_61
theorem sz_62 : szOf Try.prog 62 = some 1 := by kernel_rfl
theorem agg_62 : aggOf Try.prog 62 = some false := by kernel_rfl
theorem zero_62 : zeroOf Try.prog 62 = some [.nilFunc] := by kernel_rfl
theorem bytes_62 : bytesOf Try.prog 62 = some 8 := by kernel_rfl
attribute [simp] sz_62 agg_62 zero_62 bytes_62
theorem sz_63 : szOf Try.prog 63 = some 1 := by kernel_rfl
theorem agg_63 : aggOf Try.prog 63 = some false := by kernel_rfl
theorem zero_63 : zeroOf Try.prog 63 = some [.nilFunc] := by kernel_rfl
theorem bytes_63 : bytesOf Try.prog 63 = some 8 := by kernel_rfl
attribute [simp] sz_63 agg_63 zero_63 bytes_63
theorem sz_64 : szOf Try.prog 64 = some 3 := by kernel_rfl
theorem agg_64 : aggOf Try.prog 64 = some true := by kernel_rfl
theorem zero_64 : zeroOf Try.prog 64 = some [.string ⟨#[]⟩, .int .i64 0, .int .i64 0] := by kernel_rfl
theorem bytes_64 : bytesOf Try.prog 64 = some 32 := by kernel_rfl
theorem eqf_64 : eqfOf Try.prog 64 = some [(9, 0), (3, 1), (3, 2)] := by kernel_rfl
theorem ng_64 : noGuard Try.prog 64 = true := by kernel_rfl
theorem field_64x0 : fieldOf Try.prog 64 0 = some (9, 0) := by kernel_rfl
theorem field_64x1 : fieldOf Try.prog 64 1 = some (3, 1) := by kernel_rfl
theorem field_64x2 : fieldOf Try.prog 64 2 = some (3, 2) := by kernel_rfl
theorem places_64 : placesOf Try.prog 64 = some [(0, 1), (1, 1), (2, 1)] := by kernel_rfl
attribute [simp] sz_64 agg_64 zero_64 bytes_64 eqf_64 ng_64 field_64x0 field_64x1 field_64x2 places_64
theorem sz_65 : szOf Try.prog 65 = some 3 := by kernel_rfl
theorem agg_65 : aggOf Try.prog 65 = some true := by kernel_rfl
theorem zero_65 : zeroOf Try.prog 65 = some [.string ⟨#[]⟩, .int .i64 0, .int .i64 0] := by kernel_rfl
theorem bytes_65 : bytesOf Try.prog 65 = some 32 := by kernel_rfl
theorem eqf_65 : eqfOf Try.prog 65 = some [(9, 0), (3, 1), (3, 2)] := by kernel_rfl
theorem ng_65 : noGuard Try.prog 65 = true := by kernel_rfl
theorem field_65x0 : fieldOf Try.prog 65 0 = some (9, 0) := by kernel_rfl
theorem field_65x1 : fieldOf Try.prog 65 1 = some (3, 1) := by kernel_rfl
theorem field_65x2 : fieldOf Try.prog 65 2 = some (3, 2) := by kernel_rfl
theorem places_65 : placesOf Try.prog 65 = some [(0, 1), (1, 1), (2, 1)] := by kernel_rfl
attribute [simp] sz_65 agg_65 zero_65 bytes_65 eqf_65 ng_65 field_65x0 field_65x1 field_65x2 places_65
theorem sz_66 : szOf Try.prog 66 = some 2 := by kernel_rfl
theorem agg_66 : aggOf Try.prog 66 = some true := by kernel_rfl
theorem zero_66 : zeroOf Try.prog 66 = some [.slice none 0 0, .int .i64 0] := by kernel_rfl
theorem bytes_66 : bytesOf Try.prog 66 = some 32 := by kernel_rfl
theorem field_66x0 : fieldOf Try.prog 66 0 = some (53, 0) := by kernel_rfl
theorem field_66x1 : fieldOf Try.prog 66 1 = some (3, 1) := by kernel_rfl
theorem places_66 : placesOf Try.prog 66 = some [(0, 1), (1, 1)] := by kernel_rfl
attribute [simp] sz_66 agg_66 zero_66 bytes_66 field_66x0 field_66x1 places_66
theorem sz_67 : szOf Try.prog 67 = some 2 := by kernel_rfl
theorem agg_67 : aggOf Try.prog 67 = some true := by kernel_rfl
theorem zero_67 : zeroOf Try.prog 67 = some [.slice none 0 0, .int .i64 0] := by kernel_rfl
theorem bytes_67 : bytesOf Try.prog 67 = some 32 := by kernel_rfl
theorem field_67x0 : fieldOf Try.prog 67 0 = some (53, 0) := by kernel_rfl
theorem field_67x1 : fieldOf Try.prog 67 1 = some (3, 1) := by kernel_rfl
theorem places_67 : placesOf Try.prog 67 = some [(0, 1), (1, 1)] := by kernel_rfl
attribute [simp] sz_67 agg_67 zero_67 bytes_67 field_67x0 field_67x1 places_67
theorem sz_68 : szOf Try.prog 68 = some 1 := by kernel_rfl
theorem agg_68 : aggOf Try.prog 68 = some false := by kernel_rfl
theorem zero_68 : zeroOf Try.prog 68 = some [.nilFunc] := by kernel_rfl
theorem bytes_68 : bytesOf Try.prog 68 = some 8 := by kernel_rfl
attribute [simp] sz_68 agg_68 zero_68 bytes_68
theorem sz_69 : szOf Try.prog 69 = some 2 := by kernel_rfl
theorem agg_69 : aggOf Try.prog 69 = some true := by kernel_rfl
theorem zero_69 : zeroOf Try.prog 69 = some [.int .i64 0, .slice none 0 0] := by kernel_rfl
theorem bytes_69 : bytesOf Try.prog 69 = some 32 := by kernel_rfl
theorem field_69x0 : fieldOf Try.prog 69 0 = some (3, 0) := by kernel_rfl
theorem field_69x1 : fieldOf Try.prog 69 1 = some (22, 1) := by kernel_rfl
theorem places_69 : placesOf Try.prog 69 = some [(0, 1), (1, 1)] := by kernel_rfl
attribute [simp] sz_69 agg_69 zero_69 bytes_69 field_69x0 field_69x1 places_69
theorem sz_70 : szOf Try.prog 70 = some 2 := by kernel_rfl
theorem agg_70 : aggOf Try.prog 70 = some true := by kernel_rfl
theorem zero_70 : zeroOf Try.prog 70 = some [.int .i64 0, .slice none 0 0] := by kernel_rfl
theorem bytes_70 : bytesOf Try.prog 70 = some 32 := by kernel_rfl
theorem field_70x0 : fieldOf Try.prog 70 0 = some (3, 0) := by kernel_rfl
theorem field_70x1 : fieldOf Try.prog 70 1 = some (22, 1) := by kernel_rfl
theorem places_70 : placesOf Try.prog 70 = some [(0, 1), (1, 1)] := by kernel_rfl
attribute [simp] sz_70 agg_70 zero_70 bytes_70 field_70x0 field_70x1 places_70
theorem sz_71 : szOf Try.prog 71 = some 1 := by kernel_rfl
theorem agg_71 : aggOf Try.prog 71 = some false := by kernel_rfl
theorem zero_71 : zeroOf Try.prog 71 = some [.slice none 0 0] := by kernel_rfl
theorem bytes_71 : bytesOf Try.prog 71 = some 24 := by kernel_rfl
theorem elem_71 : elemOf Try.prog 71 = some 65 := by kernel_rfl
attribute [simp] sz_71 agg_71 zero_71 bytes_71 elem_71
theorem sz_72 : szOf Try.prog 72 = some 2 := by kernel_rfl
theorem agg_72 : aggOf Try.prog 72 = some true := by kernel_rfl
theorem zero_72 : zeroOf Try.prog 72 = some [.string ⟨#[]⟩, .slice none 0 0] := by kernel_rfl
theorem bytes_72 : bytesOf Try.prog 72 = some 40 := by kernel_rfl
theorem field_72x0 : fieldOf Try.prog 72 0 = some (9, 0) := by kernel_rfl
theorem field_72x1 : fieldOf Try.prog 72 1 = some (71, 1) := by kernel_rfl
theorem places_72 : placesOf Try.prog 72 = some [(0, 1), (1, 1)] := by kernel_rfl
attribute [simp] sz_72 agg_72 zero_72 bytes_72 field_72x0 field_72x1 places_72
theorem sz_73 : szOf Try.prog 73 = some 2 := by kernel_rfl
theorem agg_73 : aggOf Try.prog 73 = some true := by kernel_rfl
theorem zero_73 : zeroOf Try.prog 73 = some [.string ⟨#[]⟩, .slice none 0 0] := by kernel_rfl
theorem bytes_73 : bytesOf Try.prog 73 = some 40 := by kernel_rfl
theorem field_73x0 : fieldOf Try.prog 73 0 = some (9, 0) := by kernel_rfl
theorem field_73x1 : fieldOf Try.prog 73 1 = some (71, 1) := by kernel_rfl
theorem places_73 : placesOf Try.prog 73 = some [(0, 1), (1, 1)] := by kernel_rfl
attribute [simp] sz_73 agg_73 zero_73 bytes_73 field_73x0 field_73x1 places_73
theorem sz_74 : szOf Try.prog 74 = some 1 := by kernel_rfl
theorem agg_74 : aggOf Try.prog 74 = some false := by kernel_rfl
theorem zero_74 : zeroOf Try.prog 74 = some [.pointer none] := by kernel_rfl
theorem bytes_74 : bytesOf Try.prog 74 = some 8 := by kernel_rfl
theorem ptr_74 : isPtr Try.prog 74 = true := by kernel_rfl
attribute [simp] sz_74 agg_74 zero_74 bytes_74 ptr_74
theorem sz_75 : szOf Try.prog 75 = some 1 := by kernel_rfl
theorem agg_75 : aggOf Try.prog 75 = some false := by kernel_rfl
theorem zero_75 : zeroOf Try.prog 75 = some [.nilFunc] := by kernel_rfl
theorem bytes_75 : bytesOf Try.prog 75 = some 8 := by kernel_rfl
attribute [simp] sz_75 agg_75 zero_75 bytes_75
theorem sz_76 : szOf Try.prog 76 = some 1 := by kernel_rfl
theorem agg_76 : aggOf Try.prog 76 = some false := by kernel_rfl
theorem zero_76 : zeroOf Try.prog 76 = some [.nilFunc] := by kernel_rfl
theorem bytes_76 : bytesOf Try.prog 76 = some 8 := by kernel_rfl
attribute [simp] sz_76 agg_76 zero_76 bytes_76
theorem sz_77 : szOf Try.prog 77 = some 1 := by kernel_rfl
theorem agg_77 : aggOf Try.prog 77 = some false := by kernel_rfl
theorem zero_77 : zeroOf Try.prog 77 = some [.nilFunc] := by kernel_rfl
theorem bytes_77 : bytesOf Try.prog 77 = some 8 := by kernel_rfl
attribute [simp] sz_77 agg_77 zero_77 bytes_77
theorem sz_78 : szOf Try.prog 78 = some 1 := by kernel_rfl
theorem agg_78 : aggOf Try.prog 78 = some false := by kernel_rfl
theorem zero_78 : zeroOf Try.prog 78 = some [.pointer none] := by kernel_rfl
theorem bytes_78 : bytesOf Try.prog 78 = some 8 := by kernel_rfl
theorem ptr_78 : isPtr Try.prog 78 = true := by kernel_rfl
attribute [simp] sz_78 agg_78 zero_78 bytes_78 ptr_78
theorem sz_79 : szOf Try.prog 79 = some 1 := by kernel_rfl
theorem agg_79 : aggOf Try.prog 79 = some false := by kernel_rfl
theorem zero_79 : zeroOf Try.prog 79 = some [.pointer none] := by kernel_rfl
theorem bytes_79 : bytesOf Try.prog 79 = some 8 := by kernel_rfl
theorem ptr_79 : isPtr Try.prog 79 = true := by kernel_rfl
attribute [simp] sz_79 agg_79 zero_79 bytes_79 ptr_79
theorem sz_80 : szOf Try.prog 80 = some 1 := by kernel_rfl
theorem agg_80 : aggOf Try.prog 80 = some false := by kernel_rfl
theorem zero_80 : zeroOf Try.prog 80 = some [.nilFunc] := by kernel_rfl
theorem bytes_80 : bytesOf Try.prog 80 = some 8 := by kernel_rfl
attribute [simp] sz_80 agg_80 zero_80 bytes_80
theorem sz_81 : szOf Try.prog 81 = some 1 := by kernel_rfl
theorem agg_81 : aggOf Try.prog 81 = some false := by kernel_rfl
theorem zero_81 : zeroOf Try.prog 81 = some [.nilFunc] := by kernel_rfl
theorem bytes_81 : bytesOf Try.prog 81 = some 8 := by kernel_rfl
attribute [simp] sz_81 agg_81 zero_81 bytes_81
theorem sz_82 : szOf Try.prog 82 = some 1 := by kernel_rfl
theorem agg_82 : aggOf Try.prog 82 = some false := by kernel_rfl
theorem zero_82 : zeroOf Try.prog 82 = some [.nilFunc] := by kernel_rfl
theorem bytes_82 : bytesOf Try.prog 82 = some 8 := by kernel_rfl
attribute [simp] sz_82 agg_82 zero_82 bytes_82
theorem sz_83 : szOf Try.prog 83 = some 1 := by kernel_rfl
theorem agg_83 : aggOf Try.prog 83 = some false := by kernel_rfl
theorem zero_83 : zeroOf Try.prog 83 = some [.int .u64 0] := by kernel_rfl
theorem bytes_83 : bytesOf Try.prog 83 = some 8 := by kernel_rfl
theorem int_83 : intOfT Try.prog 83 = some .u64 := by kernel_rfl
theorem und_83 : (Try.prog.underlying 83).isSome = true := by kernel_rfl
attribute [simp] sz_83 agg_83 zero_83 bytes_83 int_83 und_83
theorem sz_84 : szOf Try.prog 84 = some 1 := by kernel_rfl
theorem agg_84 : aggOf Try.prog 84 = some false := by kernel_rfl
theorem zero_84 : zeroOf Try.prog 84 = some [.nilFunc] := by kernel_rfl
theorem bytes_84 : bytesOf Try.prog 84 = some 8 := by kernel_rfl
attribute [simp] sz_84 agg_84 zero_84 bytes_84
theorem sz_85 : szOf Try.prog 85 = some 1 := by kernel_rfl
theorem agg_85 : aggOf Try.prog 85 = some false := by kernel_rfl
theorem zero_85 : zeroOf Try.prog 85 = some [.nilFunc] := by kernel_rfl
theorem bytes_85 : bytesOf Try.prog 85 = some 8 := by kernel_rfl
attribute [simp] sz_85 agg_85 zero_85 bytes_85
theorem sz_86 : szOf Try.prog 86 = some 1 := by kernel_rfl
theorem agg_86 : aggOf Try.prog 86 = some false := by kernel_rfl
theorem zero_86 : zeroOf Try.prog 86 = some [.nilFunc] := by kernel_rfl
theorem bytes_86 : bytesOf Try.prog 86 = some 8 := by kernel_rfl
attribute [simp] sz_86 agg_86 zero_86 bytes_86
theorem sz_87 : szOf Try.prog 87 = some 1 := by kernel_rfl
theorem agg_87 : aggOf Try.prog 87 = some false := by kernel_rfl
theorem zero_87 : zeroOf Try.prog 87 = some [.pointer none] := by kernel_rfl
theorem bytes_87 : bytesOf Try.prog 87 = some 8 := by kernel_rfl
theorem ptr_87 : isPtr Try.prog 87 = true := by kernel_rfl
attribute [simp] sz_87 agg_87 zero_87 bytes_87 ptr_87
theorem sz_89 : szOf Try.prog 89 = some 1 := by kernel_rfl
theorem agg_89 : aggOf Try.prog 89 = some false := by kernel_rfl
theorem zero_89 : zeroOf Try.prog 89 = some [.nilFunc] := by kernel_rfl
theorem bytes_89 : bytesOf Try.prog 89 = some 8 := by kernel_rfl
attribute [simp] sz_89 agg_89 zero_89 bytes_89
theorem sz_90 : szOf Try.prog 90 = some 1 := by kernel_rfl
theorem agg_90 : aggOf Try.prog 90 = some false := by kernel_rfl
theorem zero_90 : zeroOf Try.prog 90 = some [.slice none 0 0] := by kernel_rfl
theorem bytes_90 : bytesOf Try.prog 90 = some 24 := by kernel_rfl
theorem elem_90 : elemOf Try.prog 90 = some 22 := by kernel_rfl
attribute [simp] sz_90 agg_90 zero_90 bytes_90 elem_90
theorem sz_91 : szOf Try.prog 91 = some 1 := by kernel_rfl
theorem agg_91 : aggOf Try.prog 91 = some false := by kernel_rfl
theorem zero_91 : zeroOf Try.prog 91 = some [.nilFunc] := by kernel_rfl
theorem bytes_91 : bytesOf Try.prog 91 = some 8 := by kernel_rfl
attribute [simp] sz_91 agg_91 zero_91 bytes_91
theorem sz_92 : szOf Try.prog 92 = some 1 := by kernel_rfl
theorem agg_92 : aggOf Try.prog 92 = some false := by kernel_rfl
theorem zero_92 : zeroOf Try.prog 92 = some [.slice none 0 0] := by kernel_rfl
theorem bytes_92 : bytesOf Try.prog 92 = some 24 := by kernel_rfl
theorem elem_92 : elemOf Try.prog 92 = some 38 := by kernel_rfl
attribute [simp] sz_92 agg_92 zero_92 bytes_92 elem_92
theorem sz_93 : szOf Try.prog 93 = some 1 := by kernel_rfl
theorem agg_93 : aggOf Try.prog 93 = some false := by kernel_rfl
theorem zero_93 : zeroOf Try.prog 93 = some [.nilFunc] := by kernel_rfl
theorem bytes_93 : bytesOf Try.prog 93 = some 8 := by kernel_rfl
attribute [simp] sz_93 agg_93 zero_93 bytes_93
theorem sz_94 : szOf Try.prog 94 = some 1 := by kernel_rfl
theorem agg_94 : aggOf Try.prog 94 = some false := by kernel_rfl
theorem zero_94 : zeroOf Try.prog 94 = some [.nilFunc] := by kernel_rfl
theorem bytes_94 : bytesOf Try.prog 94 = some 8 := by kernel_rfl
attribute [simp] sz_94 agg_94 zero_94 bytes_94
theorem sz_96 : szOf Try.prog 96 = some 1 := by kernel_rfl
theorem agg_96 : aggOf Try.prog 96 = some false := by kernel_rfl
theorem zero_96 : zeroOf Try.prog 96 = some [.nilFunc] := by kernel_rfl
theorem bytes_96 : bytesOf Try.prog 96 = some 8 := by kernel_rfl
attribute [simp] sz_96 agg_96 zero_96 bytes_96
theorem sz_97 : szOf Try.prog 97 = some 1 := by kernel_rfl
theorem agg_97 : aggOf Try.prog 97 = some false := by kernel_rfl
theorem zero_97 : zeroOf Try.prog 97 = some [.slice none 0 0] := by kernel_rfl
theorem bytes_97 : bytesOf Try.prog 97 = some 24 := by kernel_rfl
theorem elem_97 : elemOf Try.prog 97 = some 83 := by kernel_rfl
attribute [simp] sz_97 agg_97 zero_97 bytes_97 elem_97
theorem sz_98 : szOf Try.prog 98 = some 1 := by kernel_rfl
theorem agg_98 : aggOf Try.prog 98 = some false := by kernel_rfl
theorem zero_98 : zeroOf Try.prog 98 = some [.nilFunc] := by kernel_rfl
theorem bytes_98 : bytesOf Try.prog 98 = some 8 := by kernel_rfl
attribute [simp] sz_98 agg_98 zero_98 bytes_98
theorem sz_100 : szOf Try.prog 100 = some 1 := by kernel_rfl
theorem agg_100 : aggOf Try.prog 100 = some false := by kernel_rfl
theorem zero_100 : zeroOf Try.prog 100 = some [.nilFunc] := by kernel_rfl
theorem bytes_100 : bytesOf Try.prog 100 = some 8 := by kernel_rfl
attribute [simp] sz_100 agg_100 zero_100 bytes_100
theorem sz_102 : szOf Try.prog 102 = some 1 := by kernel_rfl
theorem agg_102 : aggOf Try.prog 102 = some false := by kernel_rfl
theorem zero_102 : zeroOf Try.prog 102 = some [.nilFunc] := by kernel_rfl
theorem bytes_102 : bytesOf Try.prog 102 = some 8 := by kernel_rfl
attribute [simp] sz_102 agg_102 zero_102 bytes_102
theorem sz_104 : szOf Try.prog 104 = some 1 := by kernel_rfl
theorem agg_104 : aggOf Try.prog 104 = some false := by kernel_rfl
theorem zero_104 : zeroOf Try.prog 104 = some [.nilFunc] := by kernel_rfl
theorem bytes_104 : bytesOf Try.prog 104 = some 8 := by kernel_rfl
attribute [simp] sz_104 agg_104 zero_104 bytes_104
theorem sz_105 : szOf Try.prog 105 = some 1 := by kernel_rfl
theorem agg_105 : aggOf Try.prog 105 = some false := by kernel_rfl
theorem zero_105 : zeroOf Try.prog 105 = some [.nilFunc] := by kernel_rfl
theorem bytes_105 : bytesOf Try.prog 105 = some 8 := by kernel_rfl
attribute [simp] sz_105 agg_105 zero_105 bytes_105
theorem sz_106 : szOf Try.prog 106 = some 1 := by kernel_rfl
theorem agg_106 : aggOf Try.prog 106 = some false := by kernel_rfl
theorem zero_106 : zeroOf Try.prog 106 = some [.nilFunc] := by kernel_rfl
theorem bytes_106 : bytesOf Try.prog 106 = some 8 := by kernel_rfl
attribute [simp] sz_106 agg_106 zero_106 bytes_106
theorem sz_107 : szOf Try.prog 107 = some 1 := by kernel_rfl
theorem agg_107 : aggOf Try.prog 107 = some false := by kernel_rfl
theorem zero_107 : zeroOf Try.prog 107 = some [.slice none 0 0] := by kernel_rfl
theorem bytes_107 : bytesOf Try.prog 107 = some 24 := by kernel_rfl
theorem elem_107 : elemOf Try.prog 107 = some 207 := by kernel_rfl
attribute [simp] sz_107 agg_107 zero_107 bytes_107 elem_107
theorem sz_108 : szOf Try.prog 108 = some 7 := by kernel_rfl
theorem agg_108 : aggOf Try.prog 108 = some true := by kernel_rfl
theorem zero_108 : zeroOf Try.prog 108 = some [.string ⟨#[]⟩, .slice none 0 0, .slice none 0 0, .slice none 0 0, .slice none 0 0, .slice none 0 0, .slice none 0 0] := by kernel_rfl
theorem bytes_108 : bytesOf Try.prog 108 = some 160 := by kernel_rfl
theorem field_108x0 : fieldOf Try.prog 108 0 = some (9, 0) := by kernel_rfl
theorem field_108x1 : fieldOf Try.prog 108 1 = some (22, 1) := by kernel_rfl
theorem field_108x2 : fieldOf Try.prog 108 2 = some (22, 2) := by kernel_rfl
theorem field_108x3 : fieldOf Try.prog 108 3 = some (22, 3) := by kernel_rfl
theorem field_108x4 : fieldOf Try.prog 108 4 = some (22, 4) := by kernel_rfl
theorem field_108x5 : fieldOf Try.prog 108 5 = some (107, 5) := by kernel_rfl
theorem field_108x6 : fieldOf Try.prog 108 6 = some (39, 6) := by kernel_rfl
theorem places_108 : placesOf Try.prog 108 = some [(0, 1), (1, 1), (2, 1), (3, 1), (4, 1), (5, 1), (6, 1)] := by kernel_rfl
attribute [simp] sz_108 agg_108 zero_108 bytes_108 field_108x0 field_108x1 field_108x2 field_108x3 field_108x4 field_108x5 field_108x6 places_108
theorem sz_109 : szOf Try.prog 109 = some 7 := by kernel_rfl
theorem agg_109 : aggOf Try.prog 109 = some true := by kernel_rfl
theorem zero_109 : zeroOf Try.prog 109 = some [.string ⟨#[]⟩, .slice none 0 0, .slice none 0 0, .slice none 0 0, .slice none 0 0, .slice none 0 0, .slice none 0 0] := by kernel_rfl
theorem bytes_109 : bytesOf Try.prog 109 = some 160 := by kernel_rfl
theorem field_109x0 : fieldOf Try.prog 109 0 = some (9, 0) := by kernel_rfl
theorem field_109x1 : fieldOf Try.prog 109 1 = some (22, 1) := by kernel_rfl
theorem field_109x2 : fieldOf Try.prog 109 2 = some (22, 2) := by kernel_rfl
theorem field_109x3 : fieldOf Try.prog 109 3 = some (22, 3) := by kernel_rfl
theorem field_109x4 : fieldOf Try.prog 109 4 = some (22, 4) := by kernel_rfl
theorem field_109x5 : fieldOf Try.prog 109 5 = some (107, 5) := by kernel_rfl
theorem field_109x6 : fieldOf Try.prog 109 6 = some (39, 6) := by kernel_rfl
theorem places_109 : placesOf Try.prog 109 = some [(0, 1), (1, 1), (2, 1), (3, 1), (4, 1), (5, 1), (6, 1)] := by kernel_rfl
attribute [simp] sz_109 agg_109 zero_109 bytes_109 field_109x0 field_109x1 field_109x2 field_109x3 field_109x4 field_109x5 field_109x6 places_109
theorem sz_111 : szOf Try.prog 111 = some 1 := by kernel_rfl
theorem agg_111 : aggOf Try.prog 111 = some false := by kernel_rfl
theorem zero_111 : zeroOf Try.prog 111 = some [.nilFunc] := by kernel_rfl
theorem bytes_111 : bytesOf Try.prog 111 = some 8 := by kernel_rfl
attribute [simp] sz_111 agg_111 zero_111 bytes_111
theorem sz_112 : szOf Try.prog 112 = some 1 := by kernel_rfl
theorem agg_112 : aggOf Try.prog 112 = some false := by kernel_rfl
theorem zero_112 : zeroOf Try.prog 112 = some [.slice none 0 0] := by kernel_rfl
theorem bytes_112 : bytesOf Try.prog 112 = some 24 := by kernel_rfl
theorem elem_112 : elemOf Try.prog 112 = some 269 := by kernel_rfl
attribute [simp] sz_112 agg_112 zero_112 bytes_112 elem_112
theorem sz_113 : szOf Try.prog 113 = some 1 := by kernel_rfl
theorem agg_113 : aggOf Try.prog 113 = some false := by kernel_rfl
theorem zero_113 : zeroOf Try.prog 113 = some [.slice none 0 0] := by kernel_rfl
theorem bytes_113 : bytesOf Try.prog 113 = some 24 := by kernel_rfl
theorem elem_113 : elemOf Try.prog 113 = some 193 := by kernel_rfl
attribute [simp] sz_113 agg_113 zero_113 bytes_113 elem_113
theorem sz_115 : szOf Try.prog 115 = some 1 := by kernel_rfl
theorem agg_115 : aggOf Try.prog 115 = some false := by kernel_rfl
theorem zero_115 : zeroOf Try.prog 115 = some [.nilFunc] := by kernel_rfl
theorem bytes_115 : bytesOf Try.prog 115 = some 8 := by kernel_rfl
attribute [simp] sz_115 agg_115 zero_115 bytes_115
theorem sz_116 : szOf Try.prog 116 = some 1 := by kernel_rfl
theorem agg_116 : aggOf Try.prog 116 = some false := by kernel_rfl
theorem zero_116 : zeroOf Try.prog 116 = some [.nilFunc] := by kernel_rfl
theorem bytes_116 : bytesOf Try.prog 116 = some 8 := by kernel_rfl
attribute [simp] sz_116 agg_116 zero_116 bytes_116
theorem sz_117 : szOf Try.prog 117 = some 1 := by kernel_rfl
theorem agg_117 : aggOf Try.prog 117 = some false := by kernel_rfl
theorem zero_117 : zeroOf Try.prog 117 = some [.nilFunc] := by kernel_rfl
theorem bytes_117 : bytesOf Try.prog 117 = some 8 := by kernel_rfl
attribute [simp] sz_117 agg_117 zero_117 bytes_117
theorem sz_118 : szOf Try.prog 118 = some 1 := by kernel_rfl
theorem agg_118 : aggOf Try.prog 118 = some false := by kernel_rfl
theorem zero_118 : zeroOf Try.prog 118 = some [.pointer none] := by kernel_rfl
theorem bytes_118 : bytesOf Try.prog 118 = some 8 := by kernel_rfl
theorem ptr_118 : isPtr Try.prog 118 = true := by kernel_rfl
attribute [simp] sz_118 agg_118 zero_118 bytes_118 ptr_118
theorem sz_119 : szOf Try.prog 119 = some 1 := by kernel_rfl
theorem agg_119 : aggOf Try.prog 119 = some true := by kernel_rfl
theorem zero_119 : zeroOf Try.prog 119 = some [.slice none 0 0] := by kernel_rfl
theorem bytes_119 : bytesOf Try.prog 119 = some 24 := by kernel_rfl
theorem field_119x0 : fieldOf Try.prog 119 0 = some (22, 0) := by kernel_rfl
theorem places_119 : placesOf Try.prog 119 = some [(0, 1)] := by kernel_rfl
attribute [simp] sz_119 agg_119 zero_119 bytes_119 field_119x0 places_119
theorem sz_120 : szOf Try.prog 120 = some 1 := by kernel_rfl
theorem agg_120 : aggOf Try.prog 120 = some true := by kernel_rfl
theorem zero_120 : zeroOf Try.prog 120 = some [.slice none 0 0] := by kernel_rfl
theorem bytes_120 : bytesOf Try.prog 120 = some 24 := by kernel_rfl
theorem field_120x0 : fieldOf Try.prog 120 0 = some (22, 0) := by kernel_rfl
theorem places_120 : placesOf Try.prog 120 = some [(0, 1)] := by kernel_rfl
attribute [simp] sz_120 agg_120 zero_120 bytes_120 field_120x0 places_120
theorem sz_121 : szOf Try.prog 121 = some 1 := by kernel_rfl
theorem agg_121 : aggOf Try.prog 121 = some false := by kernel_rfl
theorem zero_121 : zeroOf Try.prog 121 = some [.nilFunc] := by kernel_rfl
theorem bytes_121 : bytesOf Try.prog 121 = some 8 := by kernel_rfl
attribute [simp] sz_121 agg_121 zero_121 bytes_121
theorem sz_122 : szOf Try.prog 122 = some 1 := by kernel_rfl
theorem agg_122 : aggOf Try.prog 122 = some false := by kernel_rfl
theorem zero_122 : zeroOf Try.prog 122 = some [.nilFunc] := by kernel_rfl
theorem bytes_122 : bytesOf Try.prog 122 = some 8 := by kernel_rfl
attribute [simp] sz_122 agg_122 zero_122 bytes_122
theorem sz_123 : szOf Try.prog 123 = some 1 := by kernel_rfl
theorem agg_123 : aggOf Try.prog 123 = some false := by kernel_rfl
theorem zero_123 : zeroOf Try.prog 123 = some [.nilFunc] := by kernel_rfl
theorem bytes_123 : bytesOf Try.prog 123 = some 8 := by kernel_rfl
attribute [simp] sz_123 agg_123 zero_123 bytes_123
theorem sz_124 : szOf Try.prog 124 = some 1 := by kernel_rfl
theorem agg_124 : aggOf Try.prog 124 = some false := by kernel_rfl
theorem zero_124 : zeroOf Try.prog 124 = some [.nilFunc] := by kernel_rfl
theorem bytes_124 : bytesOf Try.prog 124 = some 8 := by kernel_rfl
attribute [simp] sz_124 agg_124 zero_124 bytes_124
theorem sz_125 : szOf Try.prog 125 = some 1 := by kernel_rfl
theorem agg_125 : aggOf Try.prog 125 = some false := by kernel_rfl
theorem zero_125 : zeroOf Try.prog 125 = some [.nilFunc] := by kernel_rfl
theorem bytes_125 : bytesOf Try.prog 125 = some 8 := by kernel_rfl
attribute [simp] sz_125 agg_125 zero_125 bytes_125
theorem sz_126 : szOf Try.prog 126 = some 1 := by kernel_rfl
theorem agg_126 : aggOf Try.prog 126 = some false := by kernel_rfl
theorem zero_126 : zeroOf Try.prog 126 = some [.nilFunc] := by kernel_rfl
theorem bytes_126 : bytesOf Try.prog 126 = some 8 := by kernel_rfl
attribute [simp] sz_126 agg_126 zero_126 bytes_126
theorem sz_128 : szOf Try.prog 128 = some 1 := by kernel_rfl
theorem agg_128 : aggOf Try.prog 128 = some false := by kernel_rfl
theorem zero_128 : zeroOf Try.prog 128 = some [.nilFunc] := by kernel_rfl
theorem bytes_128 : bytesOf Try.prog 128 = some 8 := by kernel_rfl
attribute [simp] sz_128 agg_128 zero_128 bytes_128
theorem sz_129 : szOf Try.prog 129 = some 1 := by kernel_rfl
theorem agg_129 : aggOf Try.prog 129 = some false := by kernel_rfl
theorem zero_129 : zeroOf Try.prog 129 = some [.nilFunc] := by kernel_rfl
theorem bytes_129 : bytesOf Try.prog 129 = some 8 := by kernel_rfl
attribute [simp] sz_129 agg_129 zero_129 bytes_129
theorem sz_130 : szOf Try.prog 130 = some 1 := by kernel_rfl
theorem agg_130 : aggOf Try.prog 130 = some false := by kernel_rfl
theorem zero_130 : zeroOf Try.prog 130 = some [.slice none 0 0] := by kernel_rfl
theorem bytes_130 : bytesOf Try.prog 130 = some 24 := by kernel_rfl
theorem elem_130 : elemOf Try.prog 130 = some 4 := by kernel_rfl
attribute [simp] sz_130 agg_130 zero_130 bytes_130 elem_130
theorem sz_131 : szOf Try.prog 131 = some 3 := by kernel_rfl
theorem agg_131 : aggOf Try.prog 131 = some true := by kernel_rfl
theorem zero_131 : zeroOf Try.prog 131 = some [.slice none 0 0, .slice none 0 0, .map none] := by kernel_rfl
theorem bytes_131 : bytesOf Try.prog 131 = some 56 := by kernel_rfl
theorem field_131x0 : fieldOf Try.prog 131 0 = some (22, 0) := by kernel_rfl
theorem field_131x1 : fieldOf Try.prog 131 1 = some (22, 1) := by kernel_rfl
theorem field_131x2 : fieldOf Try.prog 131 2 = some (49, 2) := by kernel_rfl
theorem places_131 : placesOf Try.prog 131 = some [(0, 1), (1, 1), (2, 1)] := by kernel_rfl
attribute [simp] sz_131 agg_131 zero_131 bytes_131 field_131x0 field_131x1 field_131x2 places_131
theorem sz_132 : szOf Try.prog 132 = some 3 := by kernel_rfl
theorem agg_132 : aggOf Try.prog 132 = some true := by kernel_rfl
theorem zero_132 : zeroOf Try.prog 132 = some [.slice none 0 0, .slice none 0 0, .map none] := by kernel_rfl
theorem bytes_132 : bytesOf Try.prog 132 = some 56 := by kernel_rfl
theorem field_132x0 : fieldOf Try.prog 132 0 = some (22, 0) := by kernel_rfl
theorem field_132x1 : fieldOf Try.prog 132 1 = some (22, 1) := by kernel_rfl
theorem field_132x2 : fieldOf Try.prog 132 2 = some (49, 2) := by kernel_rfl
theorem places_132 : placesOf Try.prog 132 = some [(0, 1), (1, 1), (2, 1)] := by kernel_rfl
attribute [simp] sz_132 agg_132 zero_132 bytes_132 field_132x0 field_132x1 field_132x2 places_132
theorem sz_133 : szOf Try.prog 133 = some 1 := by kernel_rfl
theorem agg_133 : aggOf Try.prog 133 = some false := by kernel_rfl
theorem zero_133 : zeroOf Try.prog 133 = some [.nilFunc] := by kernel_rfl
theorem bytes_133 : bytesOf Try.prog 133 = some 8 := by kernel_rfl
attribute [simp] sz_133 agg_133 zero_133 bytes_133
theorem sz_134 : szOf Try.prog 134 = some 1 := by kernel_rfl
theorem agg_134 : aggOf Try.prog 134 = some false := by kernel_rfl
theorem zero_134 : zeroOf Try.prog 134 = some [.nilFunc] := by kernel_rfl
theorem bytes_134 : bytesOf Try.prog 134 = some 8 := by kernel_rfl
attribute [simp] sz_134 agg_134 zero_134 bytes_134
theorem sz_135 : szOf Try.prog 135 = some 1 := by kernel_rfl
theorem agg_135 : aggOf Try.prog 135 = some false := by kernel_rfl
theorem zero_135 : zeroOf Try.prog 135 = some [.nilFunc] := by kernel_rfl
theorem bytes_135 : bytesOf Try.prog 135 = some 8 := by kernel_rfl
attribute [simp] sz_135 agg_135 zero_135 bytes_135
theorem sz_136 : szOf Try.prog 136 = some 1 := by kernel_rfl
theorem agg_136 : aggOf Try.prog 136 = some false := by kernel_rfl
theorem zero_136 : zeroOf Try.prog 136 = some [.nilFunc] := by kernel_rfl
theorem bytes_136 : bytesOf Try.prog 136 = some 8 := by kernel_rfl
attribute [simp] sz_136 agg_136 zero_136 bytes_136
theorem sz_137 : szOf Try.prog 137 = some 1 := by kernel_rfl
theorem agg_137 : aggOf Try.prog 137 = some false := by kernel_rfl
theorem zero_137 : zeroOf Try.prog 137 = some [.nilFunc] := by kernel_rfl
theorem bytes_137 : bytesOf Try.prog 137 = some 8 := by kernel_rfl
attribute [simp] sz_137 agg_137 zero_137 bytes_137
theorem sz_138 : szOf Try.prog 138 = some 1 := by kernel_rfl
theorem agg_138 : aggOf Try.prog 138 = some false := by kernel_rfl
theorem zero_138 : zeroOf Try.prog 138 = some [.pointer none] := by kernel_rfl
theorem bytes_138 : bytesOf Try.prog 138 = some 8 := by kernel_rfl
theorem ptr_138 : isPtr Try.prog 138 = true := by kernel_rfl
attribute [simp] sz_138 agg_138 zero_138 bytes_138 ptr_138
theorem sz_139 : szOf Try.prog 139 = some 2 := by kernel_rfl
theorem agg_139 : aggOf Try.prog 139 = some true := by kernel_rfl
theorem zero_139 : zeroOf Try.prog 139 = some [.pointer none, .bool false] := by kernel_rfl
theorem bytes_139 : bytesOf Try.prog 139 = some 16 := by kernel_rfl
theorem field_139x0 : fieldOf Try.prog 139 0 = some (79, 0) := by kernel_rfl
theorem field_139x1 : fieldOf Try.prog 139 1 = some (4, 1) := by kernel_rfl
theorem places_139 : placesOf Try.prog 139 = some [(0, 1), (1, 1)] := by kernel_rfl
attribute [simp] sz_139 agg_139 zero_139 bytes_139 field_139x0 field_139x1 places_139
theorem sz_140 : szOf Try.prog 140 = some 2 := by kernel_rfl
theorem agg_140 : aggOf Try.prog 140 = some true := by kernel_rfl
theorem zero_140 : zeroOf Try.prog 140 = some [.pointer none, .bool false] := by kernel_rfl
theorem bytes_140 : bytesOf Try.prog 140 = some 16 := by kernel_rfl
theorem field_140x0 : fieldOf Try.prog 140 0 = some (79, 0) := by kernel_rfl
theorem field_140x1 : fieldOf Try.prog 140 1 = some (4, 1) := by kernel_rfl
theorem places_140 : placesOf Try.prog 140 = some [(0, 1), (1, 1)] := by kernel_rfl
attribute [simp] sz_140 agg_140 zero_140 bytes_140 field_140x0 field_140x1 places_140
theorem sz_141 : szOf Try.prog 141 = some 1 := by kernel_rfl
theorem agg_141 : aggOf Try.prog 141 = some false := by kernel_rfl
theorem zero_141 : zeroOf Try.prog 141 = some [.nilFunc] := by kernel_rfl
theorem bytes_141 : bytesOf Try.prog 141 = some 8 := by kernel_rfl
attribute [simp] sz_141 agg_141 zero_141 bytes_141
theorem sz_142 : szOf Try.prog 142 = some 1 := by kernel_rfl
theorem agg_142 : aggOf Try.prog 142 = some false := by kernel_rfl
theorem zero_142 : zeroOf Try.prog 142 = some [.nilFunc] := by kernel_rfl
theorem bytes_142 : bytesOf Try.prog 142 = some 8 := by kernel_rfl
attribute [simp] sz_142 agg_142 zero_142 bytes_142
theorem sz_143 : szOf Try.prog 143 = some 1 := by kernel_rfl
theorem agg_143 : aggOf Try.prog 143 = some false := by kernel_rfl
theorem zero_143 : zeroOf Try.prog 143 = some [.pointer none] := by kernel_rfl
theorem bytes_143 : bytesOf Try.prog 143 = some 8 := by kernel_rfl
theorem ptr_143 : isPtr Try.prog 143 = true := by kernel_rfl
attribute [simp] sz_143 agg_143 zero_143 bytes_143 ptr_143
theorem sz_144 : szOf Try.prog 144 = some 3 := by kernel_rfl
theorem agg_144 : aggOf Try.prog 144 = some true := by kernel_rfl
theorem zero_144 : zeroOf Try.prog 144 = some [.slice none 0 0, .int .i64 0, .int .i64 0] := by kernel_rfl
theorem bytes_144 : bytesOf Try.prog 144 = some 40 := by kernel_rfl
theorem field_144x0 : fieldOf Try.prog 144 0 = some (67, 0) := by kernel_rfl
theorem field_144x1 : fieldOf Try.prog 144 1 = some (45, 2) := by kernel_rfl
theorem places_144 : placesOf Try.prog 144 = some [(0, 2), (2, 1)] := by kernel_rfl
attribute [simp] sz_144 agg_144 zero_144 bytes_144 field_144x0 field_144x1 places_144
theorem sz_145 : szOf Try.prog 145 = some 3 := by kernel_rfl
theorem agg_145 : aggOf Try.prog 145 = some true := by kernel_rfl
theorem zero_145 : zeroOf Try.prog 145 = some [.slice none 0 0, .int .i64 0, .int .i64 0] := by kernel_rfl
theorem bytes_145 : bytesOf Try.prog 145 = some 40 := by kernel_rfl
theorem field_145x0 : fieldOf Try.prog 145 0 = some (67, 0) := by kernel_rfl
theorem field_145x1 : fieldOf Try.prog 145 1 = some (45, 2) := by kernel_rfl
theorem places_145 : placesOf Try.prog 145 = some [(0, 2), (2, 1)] := by kernel_rfl
attribute [simp] sz_145 agg_145 zero_145 bytes_145 field_145x0 field_145x1 places_145
theorem sz_146 : szOf Try.prog 146 = some 1 := by kernel_rfl
theorem agg_146 : aggOf Try.prog 146 = some false := by kernel_rfl
theorem zero_146 : zeroOf Try.prog 146 = some [.nilFunc] := by kernel_rfl
theorem bytes_146 : bytesOf Try.prog 146 = some 8 := by kernel_rfl
attribute [simp] sz_146 agg_146 zero_146 bytes_146
theorem sz_147 : szOf Try.prog 147 = some 1 := by kernel_rfl
theorem agg_147 : aggOf Try.prog 147 = some false := by kernel_rfl
theorem zero_147 : zeroOf Try.prog 147 = some [.nilFunc] := by kernel_rfl
theorem bytes_147 : bytesOf Try.prog 147 = some 8 := by kernel_rfl
attribute [simp] sz_147 agg_147 zero_147 bytes_147
theorem sz_148 : szOf Try.prog 148 = some 1 := by kernel_rfl
theorem agg_148 : aggOf Try.prog 148 = some false := by kernel_rfl
theorem zero_148 : zeroOf Try.prog 148 = some [.nilFunc] := by kernel_rfl
theorem bytes_148 : bytesOf Try.prog 148 = some 8 := by kernel_rfl
attribute [simp] sz_148 agg_148 zero_148 bytes_148
theorem sz_149 : szOf Try.prog 149 = some 1 := by kernel_rfl
theorem agg_149 : aggOf Try.prog 149 = some false := by kernel_rfl
theorem zero_149 : zeroOf Try.prog 149 = some [.nilFunc] := by kernel_rfl
theorem bytes_149 : bytesOf Try.prog 149 = some 8 := by kernel_rfl
attribute [simp] sz_149 agg_149 zero_149 bytes_149
theorem sz_150 : szOf Try.prog 150 = some 1 := by kernel_rfl
theorem agg_150 : aggOf Try.prog 150 = some false := by kernel_rfl
theorem zero_150 : zeroOf Try.prog 150 = some [.nilFunc] := by kernel_rfl
theorem bytes_150 : bytesOf Try.prog 150 = some 8 := by kernel_rfl
attribute [simp] sz_150 agg_150 zero_150 bytes_150
theorem sz_151 : szOf Try.prog 151 = some 1 := by kernel_rfl
theorem agg_151 : aggOf Try.prog 151 = some false := by kernel_rfl
theorem zero_151 : zeroOf Try.prog 151 = some [.nilFunc] := by kernel_rfl
theorem bytes_151 : bytesOf Try.prog 151 = some 8 := by kernel_rfl
attribute [simp] sz_151 agg_151 zero_151 bytes_151
theorem sz_153 : szOf Try.prog 153 = some 1 := by kernel_rfl
theorem agg_153 : aggOf Try.prog 153 = some false := by kernel_rfl
theorem zero_153 : zeroOf Try.prog 153 = some [.nilFunc] := by kernel_rfl
theorem bytes_153 : bytesOf Try.prog 153 = some 8 := by kernel_rfl
attribute [simp] sz_153 agg_153 zero_153 bytes_153
theorem sz_154 : szOf Try.prog 154 = some 1 := by kernel_rfl
theorem agg_154 : aggOf Try.prog 154 = some false := by kernel_rfl
theorem zero_154 : zeroOf Try.prog 154 = some [.nilFunc] := by kernel_rfl
theorem bytes_154 : bytesOf Try.prog 154 = some 8 := by kernel_rfl
attribute [simp] sz_154 agg_154 zero_154 bytes_154
theorem sz_155 : szOf Try.prog 155 = some 1 := by kernel_rfl
theorem agg_155 : aggOf Try.prog 155 = some false := by kernel_rfl
theorem zero_155 : zeroOf Try.prog 155 = some [.nilFunc] := by kernel_rfl
theorem bytes_155 : bytesOf Try.prog 155 = some 8 := by kernel_rfl
attribute [simp] sz_155 agg_155 zero_155 bytes_155
theorem sz_156 : szOf Try.prog 156 = some 1 := by kernel_rfl
theorem agg_156 : aggOf Try.prog 156 = some false := by kernel_rfl
theorem zero_156 : zeroOf Try.prog 156 = some [.nilFunc] := by kernel_rfl
theorem bytes_156 : bytesOf Try.prog 156 = some 8 := by kernel_rfl
attribute [simp] sz_156 agg_156 zero_156 bytes_156
theorem sz_157 : szOf Try.prog 157 = some 1 := by kernel_rfl
theorem agg_157 : aggOf Try.prog 157 = some false := by kernel_rfl
theorem zero_157 : zeroOf Try.prog 157 = some [.nilFunc] := by kernel_rfl
theorem bytes_157 : bytesOf Try.prog 157 = some 8 := by kernel_rfl
attribute [simp] sz_157 agg_157 zero_157 bytes_157
theorem sz_158 : szOf Try.prog 158 = some 1 := by kernel_rfl
theorem agg_158 : aggOf Try.prog 158 = some false := by kernel_rfl
theorem zero_158 : zeroOf Try.prog 158 = some [.nilFunc] := by kernel_rfl
theorem bytes_158 : bytesOf Try.prog 158 = some 8 := by kernel_rfl
attribute [simp] sz_158 agg_158 zero_158 bytes_158
theorem sz_159 : szOf Try.prog 159 = some 1 := by kernel_rfl
theorem agg_159 : aggOf Try.prog 159 = some false := by kernel_rfl
theorem zero_159 : zeroOf Try.prog 159 = some [.nilFunc] := by kernel_rfl
theorem bytes_159 : bytesOf Try.prog 159 = some 8 := by kernel_rfl
attribute [simp] sz_159 agg_159 zero_159 bytes_159
theorem sz_160 : szOf Try.prog 160 = some 1 := by kernel_rfl
theorem agg_160 : aggOf Try.prog 160 = some false := by kernel_rfl
theorem zero_160 : zeroOf Try.prog 160 = some [.nilFunc] := by kernel_rfl
theorem bytes_160 : bytesOf Try.prog 160 = some 8 := by kernel_rfl
attribute [simp] sz_160 agg_160 zero_160 bytes_160
theorem sz_161 : szOf Try.prog 161 = some 1 := by kernel_rfl
theorem agg_161 : aggOf Try.prog 161 = some false := by kernel_rfl
theorem zero_161 : zeroOf Try.prog 161 = some [.nilFunc] := by kernel_rfl
theorem bytes_161 : bytesOf Try.prog 161 = some 8 := by kernel_rfl
attribute [simp] sz_161 agg_161 zero_161 bytes_161
theorem sz_162 : szOf Try.prog 162 = some 1 := by kernel_rfl
theorem agg_162 : aggOf Try.prog 162 = some false := by kernel_rfl
theorem zero_162 : zeroOf Try.prog 162 = some [.nilFunc] := by kernel_rfl
theorem bytes_162 : bytesOf Try.prog 162 = some 8 := by kernel_rfl
attribute [simp] sz_162 agg_162 zero_162 bytes_162
theorem sz_163 : szOf Try.prog 163 = some 2 := by kernel_rfl
theorem agg_163 : aggOf Try.prog 163 = some true := by kernel_rfl
theorem zero_163 : zeroOf Try.prog 163 = some [.slice none 0 0, .int .i64 0] := by kernel_rfl
theorem bytes_163 : bytesOf Try.prog 163 = some 32 := by kernel_rfl
theorem field_163x0 : fieldOf Try.prog 163 0 = some (53, 0) := by kernel_rfl
theorem field_163x1 : fieldOf Try.prog 163 1 = some (3, 1) := by kernel_rfl
theorem places_163 : placesOf Try.prog 163 = some [(0, 1), (1, 1)] := by kernel_rfl
attribute [simp] sz_163 agg_163 zero_163 bytes_163 field_163x0 field_163x1 places_163
theorem sz_164 : szOf Try.prog 164 = some 1 := by kernel_rfl
theorem agg_164 : aggOf Try.prog 164 = some false := by kernel_rfl
theorem zero_164 : zeroOf Try.prog 164 = some [.nilFunc] := by kernel_rfl
theorem bytes_164 : bytesOf Try.prog 164 = some 8 := by kernel_rfl
attribute [simp] sz_164 agg_164 zero_164 bytes_164
theorem sz_165 : szOf Try.prog 165 = some 1 := by kernel_rfl
theorem agg_165 : aggOf Try.prog 165 = some false := by kernel_rfl
theorem zero_165 : zeroOf Try.prog 165 = some [.nilFunc] := by kernel_rfl
theorem bytes_165 : bytesOf Try.prog 165 = some 8 := by kernel_rfl
attribute [simp] sz_165 agg_165 zero_165 bytes_165
theorem sz_166 : szOf Try.prog 166 = some 1 := by kernel_rfl
theorem agg_166 : aggOf Try.prog 166 = some false := by kernel_rfl
theorem zero_166 : zeroOf Try.prog 166 = some [.map none] := by kernel_rfl
theorem bytes_166 : bytesOf Try.prog 166 = some 8 := by kernel_rfl
theorem mapkv_166 : mapKV Try.prog 166 = some (.i64, 171) := by kernel_rfl
theorem zeropv_171 : zeroPV Try.prog 171 = some (.k (.pointer none)) := by kernel_rfl
attribute [simp] sz_166 agg_166 zero_166 bytes_166 mapkv_166 zeropv_171
theorem sz_167 : szOf Try.prog 167 = some 1 := by kernel_rfl
theorem agg_167 : aggOf Try.prog 167 = some false := by kernel_rfl
theorem zero_167 : zeroOf Try.prog 167 = some [.slice none 0 0] := by kernel_rfl
theorem bytes_167 : bytesOf Try.prog 167 = some 24 := by kernel_rfl
theorem elem_167 : elemOf Try.prog 167 = some 171 := by kernel_rfl
attribute [simp] sz_167 agg_167 zero_167 bytes_167 elem_167
theorem sz_168 : szOf Try.prog 168 = some 4 := by kernel_rfl
theorem agg_168 : aggOf Try.prog 168 = some true := by kernel_rfl
theorem zero_168 : zeroOf Try.prog 168 = some [.slice none 0 0, .slice none 0 0, .slice none 0 0, .map none] := by kernel_rfl
theorem bytes_168 : bytesOf Try.prog 168 = some 80 := by kernel_rfl
theorem field_168x0 : fieldOf Try.prog 168 0 = some (23, 0) := by kernel_rfl
theorem field_168x1 : fieldOf Try.prog 168 1 = some (22, 1) := by kernel_rfl
theorem field_168x2 : fieldOf Try.prog 168 2 = some (167, 2) := by kernel_rfl
theorem field_168x3 : fieldOf Try.prog 168 3 = some (166, 3) := by kernel_rfl
theorem places_168 : placesOf Try.prog 168 = some [(0, 1), (1, 1), (2, 1), (3, 1)] := by kernel_rfl
attribute [simp] sz_168 agg_168 zero_168 bytes_168 field_168x0 field_168x1 field_168x2 field_168x3 places_168
theorem sz_169 : szOf Try.prog 169 = some 4 := by kernel_rfl
theorem agg_169 : aggOf Try.prog 169 = some true := by kernel_rfl
theorem zero_169 : zeroOf Try.prog 169 = some [.slice none 0 0, .slice none 0 0, .slice none 0 0, .map none] := by kernel_rfl
theorem bytes_169 : bytesOf Try.prog 169 = some 80 := by kernel_rfl
theorem field_169x0 : fieldOf Try.prog 169 0 = some (23, 0) := by kernel_rfl
theorem field_169x1 : fieldOf Try.prog 169 1 = some (22, 1) := by kernel_rfl
theorem field_169x2 : fieldOf Try.prog 169 2 = some (167, 2) := by kernel_rfl
theorem field_169x3 : fieldOf Try.prog 169 3 = some (166, 3) := by kernel_rfl
theorem places_169 : placesOf Try.prog 169 = some [(0, 1), (1, 1), (2, 1), (3, 1)] := by kernel_rfl
attribute [simp] sz_169 agg_169 zero_169 bytes_169 field_169x0 field_169x1 field_169x2 field_169x3 places_169
theorem sz_170 : szOf Try.prog 170 = some 1 := by kernel_rfl
theorem agg_170 : aggOf Try.prog 170 = some false := by kernel_rfl
theorem zero_170 : zeroOf Try.prog 170 = some [.nilFunc] := by kernel_rfl
theorem bytes_170 : bytesOf Try.prog 170 = some 8 := by kernel_rfl
attribute [simp] sz_170 agg_170 zero_170 bytes_170
theorem sz_171 : szOf Try.prog 171 = some 1 := by kernel_rfl
theorem agg_171 : aggOf Try.prog 171 = some false := by kernel_rfl
theorem zero_171 : zeroOf Try.prog 171 = some [.pointer none] := by kernel_rfl
theorem bytes_171 : bytesOf Try.prog 171 = some 8 := by kernel_rfl
theorem ptr_171 : isPtr Try.prog 171 = true := by kernel_rfl
attribute [simp] sz_171 agg_171 zero_171 bytes_171 ptr_171
theorem sz_172 : szOf Try.prog 172 = some 1 := by kernel_rfl
theorem agg_172 : aggOf Try.prog 172 = some false := by kernel_rfl
theorem zero_172 : zeroOf Try.prog 172 = some [.nilFunc] := by kernel_rfl
theorem bytes_172 : bytesOf Try.prog 172 = some 8 := by kernel_rfl
attribute [simp] sz_172 agg_172 zero_172 bytes_172
theorem sz_173 : szOf Try.prog 173 = some 1 := by kernel_rfl
theorem agg_173 : aggOf Try.prog 173 = some false := by kernel_rfl
theorem zero_173 : zeroOf Try.prog 173 = some [.nilFunc] := by kernel_rfl
theorem bytes_173 : bytesOf Try.prog 173 = some 8 := by kernel_rfl
attribute [simp] sz_173 agg_173 zero_173 bytes_173
theorem sz_174 : szOf Try.prog 174 = some 1 := by kernel_rfl
theorem agg_174 : aggOf Try.prog 174 = some false := by kernel_rfl
theorem zero_174 : zeroOf Try.prog 174 = some [.pointer none] := by kernel_rfl
theorem bytes_174 : bytesOf Try.prog 174 = some 8 := by kernel_rfl
theorem ptr_174 : isPtr Try.prog 174 = true := by kernel_rfl
attribute [simp] sz_174 agg_174 zero_174 bytes_174 ptr_174
theorem sz_175 : szOf Try.prog 175 = some 1 := by kernel_rfl
theorem agg_175 : aggOf Try.prog 175 = some false := by kernel_rfl
theorem zero_175 : zeroOf Try.prog 175 = some [.slice none 0 0] := by kernel_rfl
theorem bytes_175 : bytesOf Try.prog 175 = some 24 := by kernel_rfl
theorem elem_175 : elemOf Try.prog 175 = some 241 := by kernel_rfl
attribute [simp] sz_175 agg_175 zero_175 bytes_175 elem_175
theorem sz_176 : szOf Try.prog 176 = some 3 := by kernel_rfl
theorem agg_176 : aggOf Try.prog 176 = some true := by kernel_rfl
theorem zero_176 : zeroOf Try.prog 176 = some [.slice none 0 0, .pointer none, .slice none 0 0] := by kernel_rfl
theorem bytes_176 : bytesOf Try.prog 176 = some 56 := by kernel_rfl
theorem field_176x0 : fieldOf Try.prog 176 0 = some (22, 0) := by kernel_rfl
theorem field_176x1 : fieldOf Try.prog 176 1 = some (174, 1) := by kernel_rfl
theorem field_176x2 : fieldOf Try.prog 176 2 = some (175, 2) := by kernel_rfl
theorem places_176 : placesOf Try.prog 176 = some [(0, 1), (1, 1), (2, 1)] := by kernel_rfl
attribute [simp] sz_176 agg_176 zero_176 bytes_176 field_176x0 field_176x1 field_176x2 places_176
theorem sz_177 : szOf Try.prog 177 = some 3 := by kernel_rfl
theorem agg_177 : aggOf Try.prog 177 = some true := by kernel_rfl
theorem zero_177 : zeroOf Try.prog 177 = some [.slice none 0 0, .pointer none, .slice none 0 0] := by kernel_rfl
theorem bytes_177 : bytesOf Try.prog 177 = some 56 := by kernel_rfl
theorem field_177x0 : fieldOf Try.prog 177 0 = some (22, 0) := by kernel_rfl
theorem field_177x1 : fieldOf Try.prog 177 1 = some (174, 1) := by kernel_rfl
theorem field_177x2 : fieldOf Try.prog 177 2 = some (175, 2) := by kernel_rfl
theorem places_177 : placesOf Try.prog 177 = some [(0, 1), (1, 1), (2, 1)] := by kernel_rfl
attribute [simp] sz_177 agg_177 zero_177 bytes_177 field_177x0 field_177x1 field_177x2 places_177
theorem sz_178 : szOf Try.prog 178 = some 1 := by kernel_rfl
theorem agg_178 : aggOf Try.prog 178 = some false := by kernel_rfl
theorem zero_178 : zeroOf Try.prog 178 = some [.nilFunc] := by kernel_rfl
theorem bytes_178 : bytesOf Try.prog 178 = some 8 := by kernel_rfl
attribute [simp] sz_178 agg_178 zero_178 bytes_178
theorem sz_179 : szOf Try.prog 179 = some 1 := by kernel_rfl
theorem agg_179 : aggOf Try.prog 179 = some false := by kernel_rfl
theorem zero_179 : zeroOf Try.prog 179 = some [.nilFunc] := by kernel_rfl
theorem bytes_179 : bytesOf Try.prog 179 = some 8 := by kernel_rfl
attribute [simp] sz_179 agg_179 zero_179 bytes_179
theorem sz_180 : szOf Try.prog 180 = some 1 := by kernel_rfl
theorem agg_180 : aggOf Try.prog 180 = some false := by kernel_rfl
theorem zero_180 : zeroOf Try.prog 180 = some [.nilFunc] := by kernel_rfl
theorem bytes_180 : bytesOf Try.prog 180 = some 8 := by kernel_rfl
attribute [simp] sz_180 agg_180 zero_180 bytes_180
theorem sz_181 : szOf Try.prog 181 = some 1 := by kernel_rfl
theorem agg_181 : aggOf Try.prog 181 = some false := by kernel_rfl
theorem zero_181 : zeroOf Try.prog 181 = some [.nilFunc] := by kernel_rfl
theorem bytes_181 : bytesOf Try.prog 181 = some 8 := by kernel_rfl
attribute [simp] sz_181 agg_181 zero_181 bytes_181
theorem sz_182 : szOf Try.prog 182 = some 1 := by kernel_rfl
theorem agg_182 : aggOf Try.prog 182 = some false := by kernel_rfl
theorem zero_182 : zeroOf Try.prog 182 = some [.nilFunc] := by kernel_rfl
theorem bytes_182 : bytesOf Try.prog 182 = some 8 := by kernel_rfl
attribute [simp] sz_182 agg_182 zero_182 bytes_182
theorem sz_183 : szOf Try.prog 183 = some 1 := by kernel_rfl
theorem agg_183 : aggOf Try.prog 183 = some false := by kernel_rfl
theorem zero_183 : zeroOf Try.prog 183 = some [.nilFunc] := by kernel_rfl
theorem bytes_183 : bytesOf Try.prog 183 = some 8 := by kernel_rfl
attribute [simp] sz_183 agg_183 zero_183 bytes_183
theorem sz_184 : szOf Try.prog 184 = some 1 := by kernel_rfl
theorem agg_184 : aggOf Try.prog 184 = some false := by kernel_rfl
theorem zero_184 : zeroOf Try.prog 184 = some [.slice none 0 0] := by kernel_rfl
theorem bytes_184 : bytesOf Try.prog 184 = some 24 := by kernel_rfl
theorem elem_184 : elemOf Try.prog 184 = some 97 := by kernel_rfl
attribute [simp] sz_184 agg_184 zero_184 bytes_184 elem_184
theorem sz_185 : szOf Try.prog 185 = some 1 := by kernel_rfl
theorem agg_185 : aggOf Try.prog 185 = some false := by kernel_rfl
theorem zero_185 : zeroOf Try.prog 185 = some [.nilFunc] := by kernel_rfl
theorem bytes_185 : bytesOf Try.prog 185 = some 8 := by kernel_rfl
attribute [simp] sz_185 agg_185 zero_185 bytes_185
theorem sz_186 : szOf Try.prog 186 = some 1 := by kernel_rfl
theorem agg_186 : aggOf Try.prog 186 = some false := by kernel_rfl
theorem zero_186 : zeroOf Try.prog 186 = some [.nilFunc] := by kernel_rfl
theorem bytes_186 : bytesOf Try.prog 186 = some 8 := by kernel_rfl
attribute [simp] sz_186 agg_186 zero_186 bytes_186
theorem sz_187 : szOf Try.prog 187 = some 1 := by kernel_rfl
theorem agg_187 : aggOf Try.prog 187 = some false := by kernel_rfl
theorem zero_187 : zeroOf Try.prog 187 = some [.nilFunc] := by kernel_rfl
theorem bytes_187 : bytesOf Try.prog 187 = some 8 := by kernel_rfl
attribute [simp] sz_187 agg_187 zero_187 bytes_187
theorem sz_188 : szOf Try.prog 188 = some 1 := by kernel_rfl
theorem agg_188 : aggOf Try.prog 188 = some false := by kernel_rfl
theorem zero_188 : zeroOf Try.prog 188 = some [.nilFunc] := by kernel_rfl
theorem bytes_188 : bytesOf Try.prog 188 = some 8 := by kernel_rfl
attribute [simp] sz_188 agg_188 zero_188 bytes_188
theorem sz_189 : szOf Try.prog 189 = some 1 := by kernel_rfl
theorem agg_189 : aggOf Try.prog 189 = some false := by kernel_rfl
theorem zero_189 : zeroOf Try.prog 189 = some [.nilFunc] := by kernel_rfl
theorem bytes_189 : bytesOf Try.prog 189 = some 8 := by kernel_rfl
attribute [simp] sz_189 agg_189 zero_189 bytes_189
theorem sz_190 : szOf Try.prog 190 = some 1 := by kernel_rfl
theorem agg_190 : aggOf Try.prog 190 = some false := by kernel_rfl
theorem zero_190 : zeroOf Try.prog 190 = some [.nilFunc] := by kernel_rfl
theorem bytes_190 : bytesOf Try.prog 190 = some 8 := by kernel_rfl
attribute [simp] sz_190 agg_190 zero_190 bytes_190
theorem sz_191 : szOf Try.prog 191 = some 1 := by kernel_rfl
theorem agg_191 : aggOf Try.prog 191 = some false := by kernel_rfl
theorem zero_191 : zeroOf Try.prog 191 = some [.nilFunc] := by kernel_rfl
theorem bytes_191 : bytesOf Try.prog 191 = some 8 := by kernel_rfl
attribute [simp] sz_191 agg_191 zero_191 bytes_191
theorem sz_192 : szOf Try.prog 192 = some 4 := by kernel_rfl
theorem agg_192 : aggOf Try.prog 192 = some true := by kernel_rfl
theorem zero_192 : zeroOf Try.prog 192 = some [.int .i64 0, .int .i64 0, .int .i64 0, .int .i64 0] := by kernel_rfl
theorem bytes_192 : bytesOf Try.prog 192 = some 32 := by kernel_rfl
theorem eqf_192 : eqfOf Try.prog 192 = some [(3, 0), (38, 1), (3, 3)] := by kernel_rfl
theorem ng_192 : noGuard Try.prog 192 = true := by kernel_rfl
theorem field_192x0 : fieldOf Try.prog 192 0 = some (3, 0) := by kernel_rfl
theorem field_192x1 : fieldOf Try.prog 192 1 = some (38, 1) := by kernel_rfl
theorem field_192x2 : fieldOf Try.prog 192 2 = some (3, 3) := by kernel_rfl
theorem places_192 : placesOf Try.prog 192 = some [(0, 1), (1, 2), (3, 1)] := by kernel_rfl
attribute [simp] sz_192 agg_192 zero_192 bytes_192 eqf_192 ng_192 field_192x0 field_192x1 field_192x2 places_192
theorem sz_193 : szOf Try.prog 193 = some 4 := by kernel_rfl
theorem agg_193 : aggOf Try.prog 193 = some true := by kernel_rfl
theorem zero_193 : zeroOf Try.prog 193 = some [.int .i64 0, .int .i64 0, .int .i64 0, .int .i64 0] := by kernel_rfl
theorem bytes_193 : bytesOf Try.prog 193 = some 32 := by kernel_rfl
theorem eqf_193 : eqfOf Try.prog 193 = some [(3, 0), (38, 1), (3, 3)] := by kernel_rfl
theorem ng_193 : noGuard Try.prog 193 = true := by kernel_rfl
theorem field_193x0 : fieldOf Try.prog 193 0 = some (3, 0) := by kernel_rfl
theorem field_193x1 : fieldOf Try.prog 193 1 = some (38, 1) := by kernel_rfl
theorem field_193x2 : fieldOf Try.prog 193 2 = some (3, 3) := by kernel_rfl
theorem places_193 : placesOf Try.prog 193 = some [(0, 1), (1, 2), (3, 1)] := by kernel_rfl
attribute [simp] sz_193 agg_193 zero_193 bytes_193 eqf_193 ng_193 field_193x0 field_193x1 field_193x2 places_193
theorem sz_194 : szOf Try.prog 194 = some 1 := by kernel_rfl
theorem agg_194 : aggOf Try.prog 194 = some false := by kernel_rfl
theorem zero_194 : zeroOf Try.prog 194 = some [.nilFunc] := by kernel_rfl
theorem bytes_194 : bytesOf Try.prog 194 = some 8 := by kernel_rfl
attribute [simp] sz_194 agg_194 zero_194 bytes_194
theorem sz_195 : szOf Try.prog 195 = some 1 := by kernel_rfl
theorem agg_195 : aggOf Try.prog 195 = some false := by kernel_rfl
theorem zero_195 : zeroOf Try.prog 195 = some [.nilFunc] := by kernel_rfl
theorem bytes_195 : bytesOf Try.prog 195 = some 8 := by kernel_rfl
attribute [simp] sz_195 agg_195 zero_195 bytes_195
theorem sz_196 : szOf Try.prog 196 = some 1 := by kernel_rfl
theorem agg_196 : aggOf Try.prog 196 = some false := by kernel_rfl
theorem zero_196 : zeroOf Try.prog 196 = some [.pointer none] := by kernel_rfl
theorem bytes_196 : bytesOf Try.prog 196 = some 8 := by kernel_rfl
theorem ptr_196 : isPtr Try.prog 196 = true := by kernel_rfl
attribute [simp] sz_196 agg_196 zero_196 bytes_196 ptr_196
theorem sz_197 : szOf Try.prog 197 = some 2 := by kernel_rfl
theorem agg_197 : aggOf Try.prog 197 = some true := by kernel_rfl
theorem zero_197 : zeroOf Try.prog 197 = some [.int .u64 0, .int .u64 0] := by kernel_rfl
theorem bytes_197 : bytesOf Try.prog 197 = some 16 := by kernel_rfl
theorem eqf_197 : eqfOf Try.prog 197 = some [(83, 0), (83, 1)] := by kernel_rfl
theorem ng_197 : noGuard Try.prog 197 = true := by kernel_rfl
theorem field_197x0 : fieldOf Try.prog 197 0 = some (83, 0) := by kernel_rfl
theorem field_197x1 : fieldOf Try.prog 197 1 = some (83, 1) := by kernel_rfl
theorem places_197 : placesOf Try.prog 197 = some [(0, 1), (1, 1)] := by kernel_rfl
attribute [simp] sz_197 agg_197 zero_197 bytes_197 eqf_197 ng_197 field_197x0 field_197x1 places_197
theorem sz_198 : szOf Try.prog 198 = some 2 := by kernel_rfl
theorem agg_198 : aggOf Try.prog 198 = some true := by kernel_rfl
theorem zero_198 : zeroOf Try.prog 198 = some [.int .u64 0, .int .u64 0] := by kernel_rfl
theorem bytes_198 : bytesOf Try.prog 198 = some 16 := by kernel_rfl
theorem eqf_198 : eqfOf Try.prog 198 = some [(83, 0), (83, 1)] := by kernel_rfl
theorem ng_198 : noGuard Try.prog 198 = true := by kernel_rfl
theorem field_198x0 : fieldOf Try.prog 198 0 = some (83, 0) := by kernel_rfl
theorem field_198x1 : fieldOf Try.prog 198 1 = some (83, 1) := by kernel_rfl
theorem places_198 : placesOf Try.prog 198 = some [(0, 1), (1, 1)] := by kernel_rfl
attribute [simp] sz_198 agg_198 zero_198 bytes_198 eqf_198 ng_198 field_198x0 field_198x1 places_198
theorem sz_199 : szOf Try.prog 199 = some 16 := by kernel_rfl
theorem agg_199 : aggOf Try.prog 199 = some true := by kernel_rfl
theorem zero_199 : zeroOf Try.prog 199 = some [.slice none 0 0, .string ⟨#[]⟩, .slice none 0 0, .slice none 0 0, .slice none 0 0, .slice none 0 0, .slice none 0 0, .slice none 0 0, .int .i64 0, .int .i64 0, .slice none 0 0, .int .u64 0, .int .u64 0, .slice none 0 0, .slice none 0 0, .int .i64 0] := by kernel_rfl
theorem bytes_199 : bytesOf Try.prog 199 = some 296 := by kernel_rfl
theorem field_199x0 : fieldOf Try.prog 199 0 = some (23, 0) := by kernel_rfl
theorem field_199x1 : fieldOf Try.prog 199 1 = some (109, 1) := by kernel_rfl
theorem field_199x2 : fieldOf Try.prog 199 2 = some (41, 8) := by kernel_rfl
theorem field_199x3 : fieldOf Try.prog 199 3 = some (198, 11) := by kernel_rfl
theorem field_199x4 : fieldOf Try.prog 199 4 = some (112, 13) := by kernel_rfl
theorem field_199x5 : fieldOf Try.prog 199 5 = some (113, 14) := by kernel_rfl
theorem field_199x6 : fieldOf Try.prog 199 6 = some (3, 15) := by kernel_rfl
theorem places_199 : placesOf Try.prog 199 = some [(0, 1), (1, 7), (8, 3), (11, 2), (13, 1), (14, 1), (15, 1)] := by kernel_rfl
attribute [simp] sz_199 agg_199 zero_199 bytes_199 field_199x0 field_199x1 field_199x2 field_199x3 field_199x4 field_199x5 field_199x6 places_199
theorem sz_200 : szOf Try.prog 200 = some 16 := by kernel_rfl
theorem agg_200 : aggOf Try.prog 200 = some true := by kernel_rfl
theorem zero_200 : zeroOf Try.prog 200 = some [.slice none 0 0, .string ⟨#[]⟩, .slice none 0 0, .slice none 0 0, .slice none 0 0, .slice none 0 0, .slice none 0 0, .slice none 0 0, .int .i64 0, .int .i64 0, .slice none 0 0, .int .u64 0, .int .u64 0, .slice none 0 0, .slice none 0 0, .int .i64 0] := by kernel_rfl
theorem bytes_200 : bytesOf Try.prog 200 = some 296 := by kernel_rfl
theorem field_200x0 : fieldOf Try.prog 200 0 = some (23, 0) := by kernel_rfl
theorem field_200x1 : fieldOf Try.prog 200 1 = some (109, 1) := by kernel_rfl
theorem field_200x2 : fieldOf Try.prog 200 2 = some (41, 8) := by kernel_rfl
theorem field_200x3 : fieldOf Try.prog 200 3 = some (198, 11) := by kernel_rfl
theorem field_200x4 : fieldOf Try.prog 200 4 = some (112, 13) := by kernel_rfl
theorem field_200x5 : fieldOf Try.prog 200 5 = some (113, 14) := by kernel_rfl
theorem field_200x6 : fieldOf Try.prog 200 6 = some (3, 15) := by kernel_rfl
theorem places_200 : placesOf Try.prog 200 = some [(0, 1), (1, 7), (8, 3), (11, 2), (13, 1), (14, 1), (15, 1)] := by kernel_rfl
attribute [simp] sz_200 agg_200 zero_200 bytes_200 field_200x0 field_200x1 field_200x2 field_200x3 field_200x4 field_200x5 field_200x6 places_200
theorem sz_201 : szOf Try.prog 201 = some 1 := by kernel_rfl
theorem agg_201 : aggOf Try.prog 201 = some false := by kernel_rfl
theorem zero_201 : zeroOf Try.prog 201 = some [.nilFunc] := by kernel_rfl
theorem bytes_201 : bytesOf Try.prog 201 = some 8 := by kernel_rfl
attribute [simp] sz_201 agg_201 zero_201 bytes_201
theorem sz_202 : szOf Try.prog 202 = some 2 := by kernel_rfl
theorem agg_202 : aggOf Try.prog 202 = some true := by kernel_rfl
theorem zero_202 : zeroOf Try.prog 202 = some [.int .i64 0, .int .i64 0] := by kernel_rfl
theorem bytes_202 : bytesOf Try.prog 202 = some 16 := by kernel_rfl
theorem eqf_202 : eqfOf Try.prog 202 = some [(3, 0), (3, 1)] := by kernel_rfl
theorem ng_202 : noGuard Try.prog 202 = true := by kernel_rfl
theorem field_202x0 : fieldOf Try.prog 202 0 = some (3, 0) := by kernel_rfl
theorem field_202x1 : fieldOf Try.prog 202 1 = some (3, 1) := by kernel_rfl
theorem places_202 : placesOf Try.prog 202 = some [(0, 1), (1, 1)] := by kernel_rfl
attribute [simp] sz_202 agg_202 zero_202 bytes_202 eqf_202 ng_202 field_202x0 field_202x1 places_202
theorem sz_203 : szOf Try.prog 203 = some 2 := by kernel_rfl
theorem agg_203 : aggOf Try.prog 203 = some true := by kernel_rfl
theorem zero_203 : zeroOf Try.prog 203 = some [.int .i64 0, .int .i64 0] := by kernel_rfl
theorem bytes_203 : bytesOf Try.prog 203 = some 16 := by kernel_rfl
theorem eqf_203 : eqfOf Try.prog 203 = some [(3, 0), (3, 1)] := by kernel_rfl
theorem ng_203 : noGuard Try.prog 203 = true := by kernel_rfl
theorem field_203x0 : fieldOf Try.prog 203 0 = some (3, 0) := by kernel_rfl
theorem field_203x1 : fieldOf Try.prog 203 1 = some (3, 1) := by kernel_rfl
theorem places_203 : placesOf Try.prog 203 = some [(0, 1), (1, 1)] := by kernel_rfl
attribute [simp] sz_203 agg_203 zero_203 bytes_203 eqf_203 ng_203 field_203x0 field_203x1 places_203
theorem sz_204 : szOf Try.prog 204 = some 4 := by kernel_rfl
theorem agg_204 : aggOf Try.prog 204 = some true := by kernel_rfl
theorem zero_204 : zeroOf Try.prog 204 = some [.bool false, .int .i64 0, .int .i64 0, .int .i64 0] := by kernel_rfl
theorem bytes_204 : bytesOf Try.prog 204 = some 32 := by kernel_rfl
theorem eqf_204 : eqfOf Try.prog 204 = some [(4, 0), (3, 1), (203, 2)] := by kernel_rfl
theorem ng_204 : noGuard Try.prog 204 = true := by kernel_rfl
theorem field_204x0 : fieldOf Try.prog 204 0 = some (4, 0) := by kernel_rfl
theorem field_204x1 : fieldOf Try.prog 204 1 = some (3, 1) := by kernel_rfl
theorem field_204x2 : fieldOf Try.prog 204 2 = some (203, 2) := by kernel_rfl
theorem places_204 : placesOf Try.prog 204 = some [(0, 1), (1, 1), (2, 2)] := by kernel_rfl
attribute [simp] sz_204 agg_204 zero_204 bytes_204 eqf_204 ng_204 field_204x0 field_204x1 field_204x2 places_204
theorem sz_205 : szOf Try.prog 205 = some 4 := by kernel_rfl
theorem agg_205 : aggOf Try.prog 205 = some true := by kernel_rfl
theorem zero_205 : zeroOf Try.prog 205 = some [.bool false, .int .i64 0, .int .i64 0, .int .i64 0] := by kernel_rfl
theorem bytes_205 : bytesOf Try.prog 205 = some 32 := by kernel_rfl
theorem eqf_205 : eqfOf Try.prog 205 = some [(4, 0), (3, 1), (203, 2)] := by kernel_rfl
theorem ng_205 : noGuard Try.prog 205 = true := by kernel_rfl
theorem field_205x0 : fieldOf Try.prog 205 0 = some (4, 0) := by kernel_rfl
theorem field_205x1 : fieldOf Try.prog 205 1 = some (3, 1) := by kernel_rfl
theorem field_205x2 : fieldOf Try.prog 205 2 = some (203, 2) := by kernel_rfl
theorem places_205 : placesOf Try.prog 205 = some [(0, 1), (1, 1), (2, 2)] := by kernel_rfl
attribute [simp] sz_205 agg_205 zero_205 bytes_205 eqf_205 ng_205 field_205x0 field_205x1 field_205x2 places_205
theorem sz_206 : szOf Try.prog 206 = some 11 := by kernel_rfl
theorem agg_206 : aggOf Try.prog 206 = some true := by kernel_rfl
theorem zero_206 : zeroOf Try.prog 206 = some [.int .i64 0, .int .i64 0, .int .i64 0, .bool false, .int .i64 0, .int .i64 0, .int .i64 0, .bool false, .int .i64 0, .int .i64 0, .int .i64 0] := by kernel_rfl
theorem bytes_206 : bytesOf Try.prog 206 = some 88 := by kernel_rfl
theorem eqf_206 : eqfOf Try.prog 206 = some [(3, 0), (203, 1), (205, 3), (205, 7)] := by kernel_rfl
theorem ng_206 : noGuard Try.prog 206 = true := by kernel_rfl
theorem field_206x0 : fieldOf Try.prog 206 0 = some (3, 0) := by kernel_rfl
theorem field_206x1 : fieldOf Try.prog 206 1 = some (203, 1) := by kernel_rfl
theorem field_206x2 : fieldOf Try.prog 206 2 = some (205, 3) := by kernel_rfl
theorem field_206x3 : fieldOf Try.prog 206 3 = some (205, 7) := by kernel_rfl
theorem places_206 : placesOf Try.prog 206 = some [(0, 1), (1, 2), (3, 4), (7, 4)] := by kernel_rfl
attribute [simp] sz_206 agg_206 zero_206 bytes_206 eqf_206 ng_206 field_206x0 field_206x1 field_206x2 field_206x3 places_206
theorem sz_207 : szOf Try.prog 207 = some 11 := by kernel_rfl
theorem agg_207 : aggOf Try.prog 207 = some true := by kernel_rfl
theorem zero_207 : zeroOf Try.prog 207 = some [.int .i64 0, .int .i64 0, .int .i64 0, .bool false, .int .i64 0, .int .i64 0, .int .i64 0, .bool false, .int .i64 0, .int .i64 0, .int .i64 0] := by kernel_rfl
theorem bytes_207 : bytesOf Try.prog 207 = some 88 := by kernel_rfl
theorem eqf_207 : eqfOf Try.prog 207 = some [(3, 0), (203, 1), (205, 3), (205, 7)] := by kernel_rfl
theorem ng_207 : noGuard Try.prog 207 = true := by kernel_rfl
theorem field_207x0 : fieldOf Try.prog 207 0 = some (3, 0) := by kernel_rfl
theorem field_207x1 : fieldOf Try.prog 207 1 = some (203, 1) := by kernel_rfl
theorem field_207x2 : fieldOf Try.prog 207 2 = some (205, 3) := by kernel_rfl
theorem field_207x3 : fieldOf Try.prog 207 3 = some (205, 7) := by kernel_rfl
theorem places_207 : placesOf Try.prog 207 = some [(0, 1), (1, 2), (3, 4), (7, 4)] := by kernel_rfl
attribute [simp] sz_207 agg_207 zero_207 bytes_207 eqf_207 ng_207 field_207x0 field_207x1 field_207x2 field_207x3 places_207
theorem sz_208 : szOf Try.prog 208 = some 1 := by kernel_rfl
theorem agg_208 : aggOf Try.prog 208 = some false := by kernel_rfl
theorem zero_208 : zeroOf Try.prog 208 = some [.nilFunc] := by kernel_rfl
theorem bytes_208 : bytesOf Try.prog 208 = some 8 := by kernel_rfl
attribute [simp] sz_208 agg_208 zero_208 bytes_208
theorem sz_209 : szOf Try.prog 209 = some 1 := by kernel_rfl
theorem agg_209 : aggOf Try.prog 209 = some false := by kernel_rfl
theorem zero_209 : zeroOf Try.prog 209 = some [.nilFunc] := by kernel_rfl
theorem bytes_209 : bytesOf Try.prog 209 = some 8 := by kernel_rfl
attribute [simp] sz_209 agg_209 zero_209 bytes_209
theorem sz_210 : szOf Try.prog 210 = some 1 := by kernel_rfl
theorem agg_210 : aggOf Try.prog 210 = some false := by kernel_rfl
theorem zero_210 : zeroOf Try.prog 210 = some [.slice none 0 0] := by kernel_rfl
theorem bytes_210 : bytesOf Try.prog 210 = some 24 := by kernel_rfl
theorem elem_210 : elemOf Try.prog 210 = some 9 := by kernel_rfl
attribute [simp] sz_210 agg_210 zero_210 bytes_210 elem_210
theorem sz_211 : szOf Try.prog 211 = some 1 := by kernel_rfl
theorem agg_211 : aggOf Try.prog 211 = some false := by kernel_rfl
theorem zero_211 : zeroOf Try.prog 211 = some [.slice none 0 0] := by kernel_rfl
theorem bytes_211 : bytesOf Try.prog 211 = some 24 := by kernel_rfl
theorem elem_211 : elemOf Try.prog 211 = some 214 := by kernel_rfl
attribute [simp] sz_211 agg_211 zero_211 bytes_211 elem_211
theorem sz_212 : szOf Try.prog 212 = some 1 := by kernel_rfl
theorem agg_212 : aggOf Try.prog 212 = some false := by kernel_rfl
theorem zero_212 : zeroOf Try.prog 212 = some [.nilFunc] := by kernel_rfl
theorem bytes_212 : bytesOf Try.prog 212 = some 8 := by kernel_rfl
attribute [simp] sz_212 agg_212 zero_212 bytes_212
theorem sz_213 : szOf Try.prog 213 = some 4 := by kernel_rfl
theorem agg_213 : aggOf Try.prog 213 = some true := by kernel_rfl
theorem zero_213 : zeroOf Try.prog 213 = some [.int .i64 0, .int .i64 0, .int .i64 0, .slice none 0 0] := by kernel_rfl
theorem bytes_213 : bytesOf Try.prog 213 = some 48 := by kernel_rfl
theorem field_213x0 : fieldOf Try.prog 213 0 = some (3, 0) := by kernel_rfl
theorem field_213x1 : fieldOf Try.prog 213 1 = some (41, 1) := by kernel_rfl
theorem places_213 : placesOf Try.prog 213 = some [(0, 1), (1, 3)] := by kernel_rfl
attribute [simp] sz_213 agg_213 zero_213 bytes_213 field_213x0 field_213x1 places_213
theorem sz_214 : szOf Try.prog 214 = some 4 := by kernel_rfl
theorem agg_214 : aggOf Try.prog 214 = some true := by kernel_rfl
theorem zero_214 : zeroOf Try.prog 214 = some [.int .i64 0, .int .i64 0, .int .i64 0, .slice none 0 0] := by kernel_rfl
theorem bytes_214 : bytesOf Try.prog 214 = some 48 := by kernel_rfl
theorem field_214x0 : fieldOf Try.prog 214 0 = some (3, 0) := by kernel_rfl
theorem field_214x1 : fieldOf Try.prog 214 1 = some (41, 1) := by kernel_rfl
theorem places_214 : placesOf Try.prog 214 = some [(0, 1), (1, 3)] := by kernel_rfl
attribute [simp] sz_214 agg_214 zero_214 bytes_214 field_214x0 field_214x1 places_214
theorem sz_215 : szOf Try.prog 215 = some 1 := by kernel_rfl
theorem agg_215 : aggOf Try.prog 215 = some false := by kernel_rfl
theorem zero_215 : zeroOf Try.prog 215 = some [.nilFunc] := by kernel_rfl
theorem bytes_215 : bytesOf Try.prog 215 = some 8 := by kernel_rfl
attribute [simp] sz_215 agg_215 zero_215 bytes_215
theorem sz_216 : szOf Try.prog 216 = some 1 := by kernel_rfl
theorem agg_216 : aggOf Try.prog 216 = some false := by kernel_rfl
theorem zero_216 : zeroOf Try.prog 216 = some [.nilFunc] := by kernel_rfl
theorem bytes_216 : bytesOf Try.prog 216 = some 8 := by kernel_rfl
attribute [simp] sz_216 agg_216 zero_216 bytes_216
theorem sz_217 : szOf Try.prog 217 = some 1 := by kernel_rfl
theorem agg_217 : aggOf Try.prog 217 = some false := by kernel_rfl
theorem zero_217 : zeroOf Try.prog 217 = some [.nilFunc] := by kernel_rfl
theorem bytes_217 : bytesOf Try.prog 217 = some 8 := by kernel_rfl
attribute [simp] sz_217 agg_217 zero_217 bytes_217
theorem sz_218 : szOf Try.prog 218 = some 1 := by kernel_rfl
theorem agg_218 : aggOf Try.prog 218 = some false := by kernel_rfl
theorem zero_218 : zeroOf Try.prog 218 = some [.nilFunc] := by kernel_rfl
theorem bytes_218 : bytesOf Try.prog 218 = some 8 := by kernel_rfl
attribute [simp] sz_218 agg_218 zero_218 bytes_218
theorem sz_219 : szOf Try.prog 219 = some 1 := by kernel_rfl
theorem agg_219 : aggOf Try.prog 219 = some false := by kernel_rfl
theorem zero_219 : zeroOf Try.prog 219 = some [.nilFunc] := by kernel_rfl
theorem bytes_219 : bytesOf Try.prog 219 = some 8 := by kernel_rfl
attribute [simp] sz_219 agg_219 zero_219 bytes_219
theorem sz_220 : szOf Try.prog 220 = some 1 := by kernel_rfl
theorem agg_220 : aggOf Try.prog 220 = some false := by kernel_rfl
theorem zero_220 : zeroOf Try.prog 220 = some [.nilFunc] := by kernel_rfl
theorem bytes_220 : bytesOf Try.prog 220 = some 8 := by kernel_rfl
attribute [simp] sz_220 agg_220 zero_220 bytes_220
theorem sz_221 : szOf Try.prog 221 = some 1 := by kernel_rfl
theorem agg_221 : aggOf Try.prog 221 = some false := by kernel_rfl
theorem zero_221 : zeroOf Try.prog 221 = some [.nilFunc] := by kernel_rfl
theorem bytes_221 : bytesOf Try.prog 221 = some 8 := by kernel_rfl
attribute [simp] sz_221 agg_221 zero_221 bytes_221
theorem sz_222 : szOf Try.prog 222 = some 1 := by kernel_rfl
theorem agg_222 : aggOf Try.prog 222 = some false := by kernel_rfl
theorem zero_222 : zeroOf Try.prog 222 = some [.nilFunc] := by kernel_rfl
theorem bytes_222 : bytesOf Try.prog 222 = some 8 := by kernel_rfl
attribute [simp] sz_222 agg_222 zero_222 bytes_222
theorem sz_223 : szOf Try.prog 223 = some 1 := by kernel_rfl
theorem agg_223 : aggOf Try.prog 223 = some false := by kernel_rfl
theorem zero_223 : zeroOf Try.prog 223 = some [.nilFunc] := by kernel_rfl
theorem bytes_223 : bytesOf Try.prog 223 = some 8 := by kernel_rfl
attribute [simp] sz_223 agg_223 zero_223 bytes_223
theorem sz_224 : szOf Try.prog 224 = some 1 := by kernel_rfl
theorem agg_224 : aggOf Try.prog 224 = some false := by kernel_rfl
theorem zero_224 : zeroOf Try.prog 224 = some [.nilFunc] := by kernel_rfl
theorem bytes_224 : bytesOf Try.prog 224 = some 8 := by kernel_rfl
attribute [simp] sz_224 agg_224 zero_224 bytes_224
theorem sz_225 : szOf Try.prog 225 = some 1 := by kernel_rfl
theorem agg_225 : aggOf Try.prog 225 = some false := by kernel_rfl
theorem zero_225 : zeroOf Try.prog 225 = some [.nilFunc] := by kernel_rfl
theorem bytes_225 : bytesOf Try.prog 225 = some 8 := by kernel_rfl
attribute [simp] sz_225 agg_225 zero_225 bytes_225
theorem sz_226 : szOf Try.prog 226 = some 1 := by kernel_rfl
theorem agg_226 : aggOf Try.prog 226 = some false := by kernel_rfl
theorem zero_226 : zeroOf Try.prog 226 = some [.nilFunc] := by kernel_rfl
theorem bytes_226 : bytesOf Try.prog 226 = some 8 := by kernel_rfl
attribute [simp] sz_226 agg_226 zero_226 bytes_226
theorem sz_227 : szOf Try.prog 227 = some 1 := by kernel_rfl
theorem agg_227 : aggOf Try.prog 227 = some false := by kernel_rfl
theorem zero_227 : zeroOf Try.prog 227 = some [.nilFunc] := by kernel_rfl
theorem bytes_227 : bytesOf Try.prog 227 = some 8 := by kernel_rfl
attribute [simp] sz_227 agg_227 zero_227 bytes_227
theorem sz_228 : szOf Try.prog 228 = some 1 := by kernel_rfl
theorem agg_228 : aggOf Try.prog 228 = some false := by kernel_rfl
theorem zero_228 : zeroOf Try.prog 228 = some [.nilFunc] := by kernel_rfl
theorem bytes_228 : bytesOf Try.prog 228 = some 8 := by kernel_rfl
attribute [simp] sz_228 agg_228 zero_228 bytes_228
theorem sz_230 : szOf Try.prog 230 = some 1 := by kernel_rfl
theorem agg_230 : aggOf Try.prog 230 = some false := by kernel_rfl
theorem zero_230 : zeroOf Try.prog 230 = some [.nilFunc] := by kernel_rfl
theorem bytes_230 : bytesOf Try.prog 230 = some 8 := by kernel_rfl
attribute [simp] sz_230 agg_230 zero_230 bytes_230
theorem sz_231 : szOf Try.prog 231 = some 1 := by kernel_rfl
theorem agg_231 : aggOf Try.prog 231 = some false := by kernel_rfl
theorem zero_231 : zeroOf Try.prog 231 = some [.nilFunc] := by kernel_rfl
theorem bytes_231 : bytesOf Try.prog 231 = some 8 := by kernel_rfl
attribute [simp] sz_231 agg_231 zero_231 bytes_231
theorem sz_232 : szOf Try.prog 232 = some 1 := by kernel_rfl
theorem agg_232 : aggOf Try.prog 232 = some false := by kernel_rfl
theorem zero_232 : zeroOf Try.prog 232 = some [.nilFunc] := by kernel_rfl
theorem bytes_232 : bytesOf Try.prog 232 = some 8 := by kernel_rfl
attribute [simp] sz_232 agg_232 zero_232 bytes_232
theorem sz_233 : szOf Try.prog 233 = some 1 := by kernel_rfl
theorem agg_233 : aggOf Try.prog 233 = some false := by kernel_rfl
theorem zero_233 : zeroOf Try.prog 233 = some [.nilFunc] := by kernel_rfl
theorem bytes_233 : bytesOf Try.prog 233 = some 8 := by kernel_rfl
attribute [simp] sz_233 agg_233 zero_233 bytes_233
theorem sz_234 : szOf Try.prog 234 = some 1 := by kernel_rfl
theorem agg_234 : aggOf Try.prog 234 = some false := by kernel_rfl
theorem zero_234 : zeroOf Try.prog 234 = some [.nilFunc] := by kernel_rfl
theorem bytes_234 : bytesOf Try.prog 234 = some 8 := by kernel_rfl
attribute [simp] sz_234 agg_234 zero_234 bytes_234
theorem sz_235 : szOf Try.prog 235 = some 1 := by kernel_rfl
theorem agg_235 : aggOf Try.prog 235 = some false := by kernel_rfl
theorem zero_235 : zeroOf Try.prog 235 = some [.nilFunc] := by kernel_rfl
theorem bytes_235 : bytesOf Try.prog 235 = some 8 := by kernel_rfl
attribute [simp] sz_235 agg_235 zero_235 bytes_235
theorem sz_236 : szOf Try.prog 236 = some 1 := by kernel_rfl
theorem agg_236 : aggOf Try.prog 236 = some false := by kernel_rfl
theorem zero_236 : zeroOf Try.prog 236 = some [.nilFunc] := by kernel_rfl
theorem bytes_236 : bytesOf Try.prog 236 = some 8 := by kernel_rfl
attribute [simp] sz_236 agg_236 zero_236 bytes_236
theorem sz_237 : szOf Try.prog 237 = some 1 := by kernel_rfl
theorem agg_237 : aggOf Try.prog 237 = some false := by kernel_rfl
theorem zero_237 : zeroOf Try.prog 237 = some [.nilFunc] := by kernel_rfl
theorem bytes_237 : bytesOf Try.prog 237 = some 8 := by kernel_rfl
attribute [simp] sz_237 agg_237 zero_237 bytes_237
theorem sz_238 : szOf Try.prog 238 = some 1 := by kernel_rfl
theorem agg_238 : aggOf Try.prog 238 = some false := by kernel_rfl
theorem zero_238 : zeroOf Try.prog 238 = some [.nilFunc] := by kernel_rfl
theorem bytes_238 : bytesOf Try.prog 238 = some 8 := by kernel_rfl
attribute [simp] sz_238 agg_238 zero_238 bytes_238
theorem sz_239 : szOf Try.prog 239 = some 1 := by kernel_rfl
theorem agg_239 : aggOf Try.prog 239 = some false := by kernel_rfl
theorem zero_239 : zeroOf Try.prog 239 = some [.nilFunc] := by kernel_rfl
theorem bytes_239 : bytesOf Try.prog 239 = some 8 := by kernel_rfl
attribute [simp] sz_239 agg_239 zero_239 bytes_239
theorem sz_240 : szOf Try.prog 240 = some 1 := by kernel_rfl
theorem agg_240 : aggOf Try.prog 240 = some false := by kernel_rfl
theorem zero_240 : zeroOf Try.prog 240 = some [.nilFunc] := by kernel_rfl
theorem bytes_240 : bytesOf Try.prog 240 = some 8 := by kernel_rfl
attribute [simp] sz_240 agg_240 zero_240 bytes_240
theorem sz_241 : szOf Try.prog 241 = some 1 := by kernel_rfl
theorem agg_241 : aggOf Try.prog 241 = some false := by kernel_rfl
theorem zero_241 : zeroOf Try.prog 241 = some [.pointer none] := by kernel_rfl
theorem bytes_241 : bytesOf Try.prog 241 = some 8 := by kernel_rfl
theorem ptr_241 : isPtr Try.prog 241 = true := by kernel_rfl
attribute [simp] sz_241 agg_241 zero_241 bytes_241 ptr_241
theorem sz_242 : szOf Try.prog 242 = some 1 := by kernel_rfl
theorem agg_242 : aggOf Try.prog 242 = some false := by kernel_rfl
theorem zero_242 : zeroOf Try.prog 242 = some [.nilFunc] := by kernel_rfl
theorem bytes_242 : bytesOf Try.prog 242 = some 8 := by kernel_rfl
attribute [simp] sz_242 agg_242 zero_242 bytes_242
theorem sz_243 : szOf Try.prog 243 = some 1 := by kernel_rfl
theorem agg_243 : aggOf Try.prog 243 = some false := by kernel_rfl
theorem zero_243 : zeroOf Try.prog 243 = some [.nilFunc] := by kernel_rfl
theorem bytes_243 : bytesOf Try.prog 243 = some 8 := by kernel_rfl
attribute [simp] sz_243 agg_243 zero_243 bytes_243
theorem sz_244 : szOf Try.prog 244 = some 1 := by kernel_rfl
theorem agg_244 : aggOf Try.prog 244 = some false := by kernel_rfl
theorem zero_244 : zeroOf Try.prog 244 = some [.nilFunc] := by kernel_rfl
theorem bytes_244 : bytesOf Try.prog 244 = some 8 := by kernel_rfl
attribute [simp] sz_244 agg_244 zero_244 bytes_244
theorem sz_245 : szOf Try.prog 245 = some 1 := by kernel_rfl
theorem agg_245 : aggOf Try.prog 245 = some false := by kernel_rfl
theorem zero_245 : zeroOf Try.prog 245 = some [.nilFunc] := by kernel_rfl
theorem bytes_245 : bytesOf Try.prog 245 = some 8 := by kernel_rfl
attribute [simp] sz_245 agg_245 zero_245 bytes_245
theorem sz_246 : szOf Try.prog 246 = some 3 := by kernel_rfl
theorem agg_246 : aggOf Try.prog 246 = some true := by kernel_rfl
theorem zero_246 : zeroOf Try.prog 246 = some [.slice none 0 0, .slice none 0 0, .map none] := by kernel_rfl
theorem bytes_246 : bytesOf Try.prog 246 = some 56 := by kernel_rfl
theorem field_246x0 : fieldOf Try.prog 246 0 = some (92, 0) := by kernel_rfl
theorem field_246x1 : fieldOf Try.prog 246 1 = some (22, 1) := by kernel_rfl
theorem field_246x2 : fieldOf Try.prog 246 2 = some (49, 2) := by kernel_rfl
theorem places_246 : placesOf Try.prog 246 = some [(0, 1), (1, 1), (2, 1)] := by kernel_rfl
attribute [simp] sz_246 agg_246 zero_246 bytes_246 field_246x0 field_246x1 field_246x2 places_246
theorem sz_247 : szOf Try.prog 247 = some 3 := by kernel_rfl
theorem agg_247 : aggOf Try.prog 247 = some true := by kernel_rfl
theorem zero_247 : zeroOf Try.prog 247 = some [.slice none 0 0, .slice none 0 0, .map none] := by kernel_rfl
theorem bytes_247 : bytesOf Try.prog 247 = some 56 := by kernel_rfl
theorem field_247x0 : fieldOf Try.prog 247 0 = some (92, 0) := by kernel_rfl
theorem field_247x1 : fieldOf Try.prog 247 1 = some (22, 1) := by kernel_rfl
theorem field_247x2 : fieldOf Try.prog 247 2 = some (49, 2) := by kernel_rfl
theorem places_247 : placesOf Try.prog 247 = some [(0, 1), (1, 1), (2, 1)] := by kernel_rfl
attribute [simp] sz_247 agg_247 zero_247 bytes_247 field_247x0 field_247x1 field_247x2 places_247
theorem sz_248 : szOf Try.prog 248 = some 1 := by kernel_rfl
theorem agg_248 : aggOf Try.prog 248 = some false := by kernel_rfl
theorem zero_248 : zeroOf Try.prog 248 = some [.nilFunc] := by kernel_rfl
theorem bytes_248 : bytesOf Try.prog 248 = some 8 := by kernel_rfl
attribute [simp] sz_248 agg_248 zero_248 bytes_248
theorem sz_249 : szOf Try.prog 249 = some 1 := by kernel_rfl
theorem agg_249 : aggOf Try.prog 249 = some false := by kernel_rfl
theorem zero_249 : zeroOf Try.prog 249 = some [.nilFunc] := by kernel_rfl
theorem bytes_249 : bytesOf Try.prog 249 = some 8 := by kernel_rfl
attribute [simp] sz_249 agg_249 zero_249 bytes_249
theorem sz_251 : szOf Try.prog 251 = some 1 := by kernel_rfl
theorem agg_251 : aggOf Try.prog 251 = some false := by kernel_rfl
theorem zero_251 : zeroOf Try.prog 251 = some [.nilFunc] := by kernel_rfl
theorem bytes_251 : bytesOf Try.prog 251 = some 8 := by kernel_rfl
attribute [simp] sz_251 agg_251 zero_251 bytes_251
theorem sz_252 : szOf Try.prog 252 = some 1 := by kernel_rfl
theorem agg_252 : aggOf Try.prog 252 = some false := by kernel_rfl
theorem zero_252 : zeroOf Try.prog 252 = some [.nilFunc] := by kernel_rfl
theorem bytes_252 : bytesOf Try.prog 252 = some 8 := by kernel_rfl
attribute [simp] sz_252 agg_252 zero_252 bytes_252
theorem sz_253 : szOf Try.prog 253 = some 1 := by kernel_rfl
theorem agg_253 : aggOf Try.prog 253 = some false := by kernel_rfl
theorem zero_253 : zeroOf Try.prog 253 = some [.nilFunc] := by kernel_rfl
theorem bytes_253 : bytesOf Try.prog 253 = some 8 := by kernel_rfl
attribute [simp] sz_253 agg_253 zero_253 bytes_253
theorem sz_254 : szOf Try.prog 254 = some 1 := by kernel_rfl
theorem agg_254 : aggOf Try.prog 254 = some false := by kernel_rfl
theorem zero_254 : zeroOf Try.prog 254 = some [.int .u64 0] := by kernel_rfl
theorem bytes_254 : bytesOf Try.prog 254 = some 8 := by kernel_rfl
theorem int_254 : intOfT Try.prog 254 = some .u64 := by kernel_rfl
theorem und_254 : (Try.prog.underlying 254).isSome = true := by kernel_rfl
attribute [simp] sz_254 agg_254 zero_254 bytes_254 int_254 und_254
theorem sz_255 : szOf Try.prog 255 = some 1 := by kernel_rfl
theorem agg_255 : aggOf Try.prog 255 = some false := by kernel_rfl
theorem zero_255 : zeroOf Try.prog 255 = some [.nilFunc] := by kernel_rfl
theorem bytes_255 : bytesOf Try.prog 255 = some 8 := by kernel_rfl
attribute [simp] sz_255 agg_255 zero_255 bytes_255
theorem sz_256 : szOf Try.prog 256 = some 1 := by kernel_rfl
theorem agg_256 : aggOf Try.prog 256 = some false := by kernel_rfl
theorem zero_256 : zeroOf Try.prog 256 = some [.nilFunc] := by kernel_rfl
theorem bytes_256 : bytesOf Try.prog 256 = some 8 := by kernel_rfl
attribute [simp] sz_256 agg_256 zero_256 bytes_256
theorem sz_257 : szOf Try.prog 257 = some 1 := by kernel_rfl
theorem agg_257 : aggOf Try.prog 257 = some false := by kernel_rfl
theorem zero_257 : zeroOf Try.prog 257 = some [.nilFunc] := by kernel_rfl
theorem bytes_257 : bytesOf Try.prog 257 = some 8 := by kernel_rfl
attribute [simp] sz_257 agg_257 zero_257 bytes_257
theorem sz_258 : szOf Try.prog 258 = some 1 := by kernel_rfl
theorem agg_258 : aggOf Try.prog 258 = some false := by kernel_rfl
theorem zero_258 : zeroOf Try.prog 258 = some [.nilFunc] := by kernel_rfl
theorem bytes_258 : bytesOf Try.prog 258 = some 8 := by kernel_rfl
attribute [simp] sz_258 agg_258 zero_258 bytes_258
theorem sz_259 : szOf Try.prog 259 = some 1 := by kernel_rfl
theorem agg_259 : aggOf Try.prog 259 = some false := by kernel_rfl
theorem zero_259 : zeroOf Try.prog 259 = some [.nilFunc] := by kernel_rfl
theorem bytes_259 : bytesOf Try.prog 259 = some 8 := by kernel_rfl
attribute [simp] sz_259 agg_259 zero_259 bytes_259
theorem sz_260 : szOf Try.prog 260 = some 1 := by kernel_rfl
theorem agg_260 : aggOf Try.prog 260 = some false := by kernel_rfl
theorem zero_260 : zeroOf Try.prog 260 = some [.nilFunc] := by kernel_rfl
theorem bytes_260 : bytesOf Try.prog 260 = some 8 := by kernel_rfl
attribute [simp] sz_260 agg_260 zero_260 bytes_260
theorem sz_261 : szOf Try.prog 261 = some 1 := by kernel_rfl
theorem agg_261 : aggOf Try.prog 261 = some false := by kernel_rfl
theorem zero_261 : zeroOf Try.prog 261 = some [.nilFunc] := by kernel_rfl
theorem bytes_261 : bytesOf Try.prog 261 = some 8 := by kernel_rfl
attribute [simp] sz_261 agg_261 zero_261 bytes_261
theorem sz_262 : szOf Try.prog 262 = some 1 := by kernel_rfl
theorem agg_262 : aggOf Try.prog 262 = some false := by kernel_rfl
theorem zero_262 : zeroOf Try.prog 262 = some [.nilFunc] := by kernel_rfl
theorem bytes_262 : bytesOf Try.prog 262 = some 8 := by kernel_rfl
attribute [simp] sz_262 agg_262 zero_262 bytes_262
theorem sz_263 : szOf Try.prog 263 = some 1 := by kernel_rfl
theorem agg_263 : aggOf Try.prog 263 = some false := by kernel_rfl
theorem zero_263 : zeroOf Try.prog 263 = some [.nilFunc] := by kernel_rfl
theorem bytes_263 : bytesOf Try.prog 263 = some 8 := by kernel_rfl
attribute [simp] sz_263 agg_263 zero_263 bytes_263
theorem sz_264 : szOf Try.prog 264 = some 1 := by kernel_rfl
theorem agg_264 : aggOf Try.prog 264 = some false := by kernel_rfl
theorem zero_264 : zeroOf Try.prog 264 = some [.nilFunc] := by kernel_rfl
theorem bytes_264 : bytesOf Try.prog 264 = some 8 := by kernel_rfl
attribute [simp] sz_264 agg_264 zero_264 bytes_264
theorem sz_265 : szOf Try.prog 265 = some 1 := by kernel_rfl
theorem agg_265 : aggOf Try.prog 265 = some false := by kernel_rfl
theorem zero_265 : zeroOf Try.prog 265 = some [.nilFunc] := by kernel_rfl
theorem bytes_265 : bytesOf Try.prog 265 = some 8 := by kernel_rfl
attribute [simp] sz_265 agg_265 zero_265 bytes_265
theorem sz_266 : szOf Try.prog 266 = some 1 := by kernel_rfl
theorem agg_266 : aggOf Try.prog 266 = some false := by kernel_rfl
theorem zero_266 : zeroOf Try.prog 266 = some [.nilFunc] := by kernel_rfl
theorem bytes_266 : bytesOf Try.prog 266 = some 8 := by kernel_rfl
attribute [simp] sz_266 agg_266 zero_266 bytes_266
theorem sz_267 : szOf Try.prog 267 = some 1 := by kernel_rfl
theorem agg_267 : aggOf Try.prog 267 = some false := by kernel_rfl
theorem zero_267 : zeroOf Try.prog 267 = some [.nilFunc] := by kernel_rfl
theorem bytes_267 : bytesOf Try.prog 267 = some 8 := by kernel_rfl
attribute [simp] sz_267 agg_267 zero_267 bytes_267
theorem sz_268 : szOf Try.prog 268 = some 5 := by kernel_rfl
theorem agg_268 : aggOf Try.prog 268 = some true := by kernel_rfl
theorem zero_268 : zeroOf Try.prog 268 = some [.int .i64 0, .int .i64 0, .int .i64 0, .int .i64 0, .slice none 0 0] := by kernel_rfl
theorem bytes_268 : bytesOf Try.prog 268 = some 56 := by kernel_rfl
theorem field_268x0 : fieldOf Try.prog 268 0 = some (3, 0) := by kernel_rfl
theorem field_268x1 : fieldOf Try.prog 268 1 = some (38, 1) := by kernel_rfl
theorem field_268x2 : fieldOf Try.prog 268 2 = some (3, 3) := by kernel_rfl
theorem field_268x3 : fieldOf Try.prog 268 3 = some (39, 4) := by kernel_rfl
theorem places_268 : placesOf Try.prog 268 = some [(0, 1), (1, 2), (3, 1), (4, 1)] := by kernel_rfl
attribute [simp] sz_268 agg_268 zero_268 bytes_268 field_268x0 field_268x1 field_268x2 field_268x3 places_268
theorem sz_269 : szOf Try.prog 269 = some 5 := by kernel_rfl
theorem agg_269 : aggOf Try.prog 269 = some true := by kernel_rfl
theorem zero_269 : zeroOf Try.prog 269 = some [.int .i64 0, .int .i64 0, .int .i64 0, .int .i64 0, .slice none 0 0] := by kernel_rfl
theorem bytes_269 : bytesOf Try.prog 269 = some 56 := by kernel_rfl
theorem field_269x0 : fieldOf Try.prog 269 0 = some (3, 0) := by kernel_rfl
theorem field_269x1 : fieldOf Try.prog 269 1 = some (38, 1) := by kernel_rfl
theorem field_269x2 : fieldOf Try.prog 269 2 = some (3, 3) := by kernel_rfl
theorem field_269x3 : fieldOf Try.prog 269 3 = some (39, 4) := by kernel_rfl
theorem places_269 : placesOf Try.prog 269 = some [(0, 1), (1, 2), (3, 1), (4, 1)] := by kernel_rfl
attribute [simp] sz_269 agg_269 zero_269 bytes_269 field_269x0 field_269x1 field_269x2 field_269x3 places_269
theorem sz_270 : szOf Try.prog 270 = some 1 := by kernel_rfl
theorem agg_270 : aggOf Try.prog 270 = some false := by kernel_rfl
theorem zero_270 : zeroOf Try.prog 270 = some [.nilFunc] := by kernel_rfl
theorem bytes_270 : bytesOf Try.prog 270 = some 8 := by kernel_rfl
attribute [simp] sz_270 agg_270 zero_270 bytes_270
theorem sz_271 : szOf Try.prog 271 = some 1 := by kernel_rfl
theorem agg_271 : aggOf Try.prog 271 = some false := by kernel_rfl
theorem zero_271 : zeroOf Try.prog 271 = some [.nilFunc] := by kernel_rfl
theorem bytes_271 : bytesOf Try.prog 271 = some 8 := by kernel_rfl
attribute [simp] sz_271 agg_271 zero_271 bytes_271
theorem sz_272 : szOf Try.prog 272 = some 1 := by kernel_rfl
theorem agg_272 : aggOf Try.prog 272 = some false := by kernel_rfl
theorem zero_272 : zeroOf Try.prog 272 = some [.nilFunc] := by kernel_rfl
theorem bytes_272 : bytesOf Try.prog 272 = some 8 := by kernel_rfl
attribute [simp] sz_272 agg_272 zero_272 bytes_272
theorem sz_273 : szOf Try.prog 273 = some 1 := by kernel_rfl
theorem agg_273 : aggOf Try.prog 273 = some false := by kernel_rfl
theorem zero_273 : zeroOf Try.prog 273 = some [.nilFunc] := by kernel_rfl
theorem bytes_273 : bytesOf Try.prog 273 = some 8 := by kernel_rfl
attribute [simp] sz_273 agg_273 zero_273 bytes_273
theorem sz_274 : szOf Try.prog 274 = some 1 := by kernel_rfl
theorem agg_274 : aggOf Try.prog 274 = some false := by kernel_rfl
theorem zero_274 : zeroOf Try.prog 274 = some [.nilFunc] := by kernel_rfl
theorem bytes_274 : bytesOf Try.prog 274 = some 8 := by kernel_rfl
attribute [simp] sz_274 agg_274 zero_274 bytes_274
theorem sz_275 : szOf Try.prog 275 = some 1 := by kernel_rfl
theorem agg_275 : aggOf Try.prog 275 = some false := by kernel_rfl
theorem zero_275 : zeroOf Try.prog 275 = some [.nilFunc] := by kernel_rfl
theorem bytes_275 : bytesOf Try.prog 275 = some 8 := by kernel_rfl
attribute [simp] sz_275 agg_275 zero_275 bytes_275
theorem sz_276 : szOf Try.prog 276 = some 1 := by kernel_rfl
theorem agg_276 : aggOf Try.prog 276 = some false := by kernel_rfl
theorem zero_276 : zeroOf Try.prog 276 = some [.nilFunc] := by kernel_rfl
theorem bytes_276 : bytesOf Try.prog 276 = some 8 := by kernel_rfl
attribute [simp] sz_276 agg_276 zero_276 bytes_276
theorem sz_277 : szOf Try.prog 277 = some 1 := by kernel_rfl
theorem agg_277 : aggOf Try.prog 277 = some false := by kernel_rfl
theorem zero_277 : zeroOf Try.prog 277 = some [.nilFunc] := by kernel_rfl
theorem bytes_277 : bytesOf Try.prog 277 = some 8 := by kernel_rfl
attribute [simp] sz_277 agg_277 zero_277 bytes_277
theorem sz_278 : szOf Try.prog 278 = some 1 := by kernel_rfl
theorem agg_278 : aggOf Try.prog 278 = some false := by kernel_rfl
theorem zero_278 : zeroOf Try.prog 278 = some [.nilFunc] := by kernel_rfl
theorem bytes_278 : bytesOf Try.prog 278 = some 8 := by kernel_rfl
attribute [simp] sz_278 agg_278 zero_278 bytes_278
theorem sz_279 : szOf Try.prog 279 = some 1 := by kernel_rfl
theorem agg_279 : aggOf Try.prog 279 = some false := by kernel_rfl
theorem zero_279 : zeroOf Try.prog 279 = some [.nilFunc] := by kernel_rfl
theorem bytes_279 : bytesOf Try.prog 279 = some 8 := by kernel_rfl
attribute [simp] sz_279 agg_279 zero_279 bytes_279
theorem sz_280 : szOf Try.prog 280 = some 1 := by kernel_rfl
theorem agg_280 : aggOf Try.prog 280 = some false := by kernel_rfl
theorem zero_280 : zeroOf Try.prog 280 = some [.nilFunc] := by kernel_rfl
theorem bytes_280 : bytesOf Try.prog 280 = some 8 := by kernel_rfl
attribute [simp] sz_280 agg_280 zero_280 bytes_280
theorem sz_281 : szOf Try.prog 281 = some 1 := by kernel_rfl
theorem agg_281 : aggOf Try.prog 281 = some false := by kernel_rfl
theorem zero_281 : zeroOf Try.prog 281 = some [.nilFunc] := by kernel_rfl
theorem bytes_281 : bytesOf Try.prog 281 = some 8 := by kernel_rfl
attribute [simp] sz_281 agg_281 zero_281 bytes_281
theorem sz_282 : szOf Try.prog 282 = some 1 := by kernel_rfl
theorem agg_282 : aggOf Try.prog 282 = some false := by kernel_rfl
theorem zero_282 : zeroOf Try.prog 282 = some [.nilFunc] := by kernel_rfl
theorem bytes_282 : bytesOf Try.prog 282 = some 8 := by kernel_rfl
attribute [simp] sz_282 agg_282 zero_282 bytes_282
theorem sz_283 : szOf Try.prog 283 = some 3 := by kernel_rfl
theorem agg_283 : aggOf Try.prog 283 = some true := by kernel_rfl
theorem zero_283 : zeroOf Try.prog 283 = some [.slice none 0 0, .slice none 0 0, .map none] := by kernel_rfl
theorem bytes_283 : bytesOf Try.prog 283 = some 56 := by kernel_rfl
theorem field_283x0 : fieldOf Try.prog 283 0 = some (90, 0) := by kernel_rfl
theorem field_283x1 : fieldOf Try.prog 283 1 = some (22, 1) := by kernel_rfl
theorem field_283x2 : fieldOf Try.prog 283 2 = some (49, 2) := by kernel_rfl
theorem places_283 : placesOf Try.prog 283 = some [(0, 1), (1, 1), (2, 1)] := by kernel_rfl
attribute [simp] sz_283 agg_283 zero_283 bytes_283 field_283x0 field_283x1 field_283x2 places_283
theorem sz_284 : szOf Try.prog 284 = some 3 := by kernel_rfl
theorem agg_284 : aggOf Try.prog 284 = some true := by kernel_rfl
theorem zero_284 : zeroOf Try.prog 284 = some [.slice none 0 0, .slice none 0 0, .map none] := by kernel_rfl
theorem bytes_284 : bytesOf Try.prog 284 = some 56 := by kernel_rfl
theorem field_284x0 : fieldOf Try.prog 284 0 = some (90, 0) := by kernel_rfl
theorem field_284x1 : fieldOf Try.prog 284 1 = some (22, 1) := by kernel_rfl
theorem field_284x2 : fieldOf Try.prog 284 2 = some (49, 2) := by kernel_rfl
theorem places_284 : placesOf Try.prog 284 = some [(0, 1), (1, 1), (2, 1)] := by kernel_rfl
attribute [simp] sz_284 agg_284 zero_284 bytes_284 field_284x0 field_284x1 field_284x2 places_284
theorem sz_285 : szOf Try.prog 285 = some 1 := by kernel_rfl
theorem agg_285 : aggOf Try.prog 285 = some false := by kernel_rfl
theorem zero_285 : zeroOf Try.prog 285 = some [.nilFunc] := by kernel_rfl
theorem bytes_285 : bytesOf Try.prog 285 = some 8 := by kernel_rfl
attribute [simp] sz_285 agg_285 zero_285 bytes_285
theorem sz_286 : szOf Try.prog 286 = some 1 := by kernel_rfl
theorem agg_286 : aggOf Try.prog 286 = some false := by kernel_rfl
theorem zero_286 : zeroOf Try.prog 286 = some [.nilFunc] := by kernel_rfl
theorem bytes_286 : bytesOf Try.prog 286 = some 8 := by kernel_rfl
attribute [simp] sz_286 agg_286 zero_286 bytes_286
theorem sz_287 : szOf Try.prog 287 = some 1 := by kernel_rfl
theorem agg_287 : aggOf Try.prog 287 = some false := by kernel_rfl
theorem zero_287 : zeroOf Try.prog 287 = some [.nilFunc] := by kernel_rfl
theorem bytes_287 : bytesOf Try.prog 287 = some 8 := by kernel_rfl
attribute [simp] sz_287 agg_287 zero_287 bytes_287
theorem sz_288 : szOf Try.prog 288 = some 1 := by kernel_rfl
theorem agg_288 : aggOf Try.prog 288 = some false := by kernel_rfl
theorem zero_288 : zeroOf Try.prog 288 = some [.int .i64 0] := by kernel_rfl
theorem bytes_288 : bytesOf Try.prog 288 = some 8 := by kernel_rfl
theorem int_288 : intOfT Try.prog 288 = some .i64 := by kernel_rfl
theorem und_288 : (Try.prog.underlying 288).isSome = true := by kernel_rfl
attribute [simp] sz_288 agg_288 zero_288 bytes_288 int_288 und_288
theorem sz_290 : szOf Try.prog 290 = some 1 := by kernel_rfl
theorem agg_290 : aggOf Try.prog 290 = some false := by kernel_rfl
theorem zero_290 : zeroOf Try.prog 290 = some [.nilFunc] := by kernel_rfl
theorem bytes_290 : bytesOf Try.prog 290 = some 8 := by kernel_rfl
attribute [simp] sz_290 agg_290 zero_290 bytes_290
theorem sz_291 : szOf Try.prog 291 = some 1 := by kernel_rfl
theorem agg_291 : aggOf Try.prog 291 = some false := by kernel_rfl
theorem zero_291 : zeroOf Try.prog 291 = some [.nilFunc] := by kernel_rfl
theorem bytes_291 : bytesOf Try.prog 291 = some 8 := by kernel_rfl
attribute [simp] sz_291 agg_291 zero_291 bytes_291
theorem sz_292 : szOf Try.prog 292 = some 1 := by kernel_rfl
theorem agg_292 : aggOf Try.prog 292 = some false := by kernel_rfl
theorem zero_292 : zeroOf Try.prog 292 = some [.nilFunc] := by kernel_rfl
theorem bytes_292 : bytesOf Try.prog 292 = some 8 := by kernel_rfl
attribute [simp] sz_292 agg_292 zero_292 bytes_292
theorem sz_293 : szOf Try.prog 293 = some 1 := by kernel_rfl
theorem agg_293 : aggOf Try.prog 293 = some false := by kernel_rfl
theorem zero_293 : zeroOf Try.prog 293 = some [.nilFunc] := by kernel_rfl
theorem bytes_293 : bytesOf Try.prog 293 = some 8 := by kernel_rfl
attribute [simp] sz_293 agg_293 zero_293 bytes_293
theorem sz_294 : szOf Try.prog 294 = some 1 := by kernel_rfl
theorem agg_294 : aggOf Try.prog 294 = some false := by kernel_rfl
theorem zero_294 : zeroOf Try.prog 294 = some [.nilFunc] := by kernel_rfl
theorem bytes_294 : bytesOf Try.prog 294 = some 8 := by kernel_rfl
attribute [simp] sz_294 agg_294 zero_294 bytes_294
theorem sz_295 : szOf Try.prog 295 = some 1 := by kernel_rfl
theorem agg_295 : aggOf Try.prog 295 = some false := by kernel_rfl
theorem zero_295 : zeroOf Try.prog 295 = some [.int .u32 0] := by kernel_rfl
theorem bytes_295 : bytesOf Try.prog 295 = some 4 := by kernel_rfl
theorem int_295 : intOfT Try.prog 295 = some .u32 := by kernel_rfl
theorem und_295 : (Try.prog.underlying 295).isSome = true := by kernel_rfl
attribute [simp] sz_295 agg_295 zero_295 bytes_295 int_295 und_295
theorem sz_296 : szOf Try.prog 296 = some 1 := by kernel_rfl
theorem agg_296 : aggOf Try.prog 296 = some false := by kernel_rfl
theorem zero_296 : zeroOf Try.prog 296 = some [.nilFunc] := by kernel_rfl
theorem bytes_296 : bytesOf Try.prog 296 = some 8 := by kernel_rfl
attribute [simp] sz_296 agg_296 zero_296 bytes_296
theorem sz_297 : szOf Try.prog 297 = some 1 := by kernel_rfl
theorem agg_297 : aggOf Try.prog 297 = some false := by kernel_rfl
theorem zero_297 : zeroOf Try.prog 297 = some [.nilFunc] := by kernel_rfl
theorem bytes_297 : bytesOf Try.prog 297 = some 8 := by kernel_rfl
attribute [simp] sz_297 agg_297 zero_297 bytes_297
theorem sz_298 : szOf Try.prog 298 = some 1 := by kernel_rfl
theorem agg_298 : aggOf Try.prog 298 = some false := by kernel_rfl
theorem zero_298 : zeroOf Try.prog 298 = some [.nilFunc] := by kernel_rfl
theorem bytes_298 : bytesOf Try.prog 298 = some 8 := by kernel_rfl
attribute [simp] sz_298 agg_298 zero_298 bytes_298
theorem sz_299 : szOf Try.prog 299 = some 1 := by kernel_rfl
theorem agg_299 : aggOf Try.prog 299 = some false := by kernel_rfl
theorem zero_299 : zeroOf Try.prog 299 = some [.nilFunc] := by kernel_rfl
theorem bytes_299 : bytesOf Try.prog 299 = some 8 := by kernel_rfl
attribute [simp] sz_299 agg_299 zero_299 bytes_299
theorem sz_300 : szOf Try.prog 300 = some 1 := by kernel_rfl
theorem agg_300 : aggOf Try.prog 300 = some false := by kernel_rfl
theorem zero_300 : zeroOf Try.prog 300 = some [.slice none 0 0] := by kernel_rfl
theorem bytes_300 : bytesOf Try.prog 300 = some 24 := by kernel_rfl
theorem elem_300 : elemOf Try.prog 300 = some 205 := by kernel_rfl
attribute [simp] sz_300 agg_300 zero_300 bytes_300 elem_300
theorem sz_301 : szOf Try.prog 301 = some 1 := by kernel_rfl
theorem agg_301 : aggOf Try.prog 301 = some false := by kernel_rfl
theorem zero_301 : zeroOf Try.prog 301 = some [.nilFunc] := by kernel_rfl
theorem bytes_301 : bytesOf Try.prog 301 = some 8 := by kernel_rfl
attribute [simp] sz_301 agg_301 zero_301 bytes_301
theorem sz_302 : szOf Try.prog 302 = some 1 := by kernel_rfl
theorem agg_302 : aggOf Try.prog 302 = some false := by kernel_rfl
theorem zero_302 : zeroOf Try.prog 302 = some [.nilFunc] := by kernel_rfl
theorem bytes_302 : bytesOf Try.prog 302 = some 8 := by kernel_rfl
attribute [simp] sz_302 agg_302 zero_302 bytes_302
theorem sz_304 : szOf Try.prog 304 = some 1 := by kernel_rfl
theorem agg_304 : aggOf Try.prog 304 = some false := by kernel_rfl
theorem zero_304 : zeroOf Try.prog 304 = some [.nilFunc] := by kernel_rfl
theorem bytes_304 : bytesOf Try.prog 304 = some 8 := by kernel_rfl
attribute [simp] sz_304 agg_304 zero_304 bytes_304
theorem sz_305 : szOf Try.prog 305 = some 1 := by kernel_rfl
theorem agg_305 : aggOf Try.prog 305 = some false := by kernel_rfl
theorem zero_305 : zeroOf Try.prog 305 = some [.nilFunc] := by kernel_rfl
theorem bytes_305 : bytesOf Try.prog 305 = some 8 := by kernel_rfl
attribute [simp] sz_305 agg_305 zero_305 bytes_305
theorem sz_306 : szOf Try.prog 306 = some 1 := by kernel_rfl
theorem agg_306 : aggOf Try.prog 306 = some false := by kernel_rfl
theorem zero_306 : zeroOf Try.prog 306 = some [.nilFunc] := by kernel_rfl
theorem bytes_306 : bytesOf Try.prog 306 = some 8 := by kernel_rfl
attribute [simp] sz_306 agg_306 zero_306 bytes_306
theorem sz_307 : szOf Try.prog 307 = some 1 := by kernel_rfl
theorem agg_307 : aggOf Try.prog 307 = some false := by kernel_rfl
theorem zero_307 : zeroOf Try.prog 307 = some [.nilFunc] := by kernel_rfl
theorem bytes_307 : bytesOf Try.prog 307 = some 8 := by kernel_rfl
attribute [simp] sz_307 agg_307 zero_307 bytes_307
theorem sz_308 : szOf Try.prog 308 = some 1 := by kernel_rfl
theorem agg_308 : aggOf Try.prog 308 = some false := by kernel_rfl
theorem zero_308 : zeroOf Try.prog 308 = some [.nilFunc] := by kernel_rfl
theorem bytes_308 : bytesOf Try.prog 308 = some 8 := by kernel_rfl
attribute [simp] sz_308 agg_308 zero_308 bytes_308
theorem sz_309 : szOf Try.prog 309 = some 1 := by kernel_rfl
theorem agg_309 : aggOf Try.prog 309 = some false := by kernel_rfl
theorem zero_309 : zeroOf Try.prog 309 = some [.nilFunc] := by kernel_rfl
theorem bytes_309 : bytesOf Try.prog 309 = some 8 := by kernel_rfl
attribute [simp] sz_309 agg_309 zero_309 bytes_309
theorem sz_310 : szOf Try.prog 310 = some 1 := by kernel_rfl
theorem agg_310 : aggOf Try.prog 310 = some false := by kernel_rfl
theorem zero_310 : zeroOf Try.prog 310 = some [.nilFunc] := by kernel_rfl
theorem bytes_310 : bytesOf Try.prog 310 = some 8 := by kernel_rfl
attribute [simp] sz_310 agg_310 zero_310 bytes_310
theorem sz_311 : szOf Try.prog 311 = some 1 := by kernel_rfl
theorem agg_311 : aggOf Try.prog 311 = some false := by kernel_rfl
theorem zero_311 : zeroOf Try.prog 311 = some [.int .u64 0] := by kernel_rfl
theorem bytes_311 : bytesOf Try.prog 311 = some 8 := by kernel_rfl
theorem int_311 : intOfT Try.prog 311 = some .u64 := by kernel_rfl
theorem und_311 : (Try.prog.underlying 311).isSome = true := by kernel_rfl
attribute [simp] sz_311 agg_311 zero_311 bytes_311 int_311 und_311
theorem sz_312 : szOf Try.prog 312 = some 1 := by kernel_rfl
theorem agg_312 : aggOf Try.prog 312 = some false := by kernel_rfl
theorem zero_312 : zeroOf Try.prog 312 = some [.nilFunc] := by kernel_rfl
theorem bytes_312 : bytesOf Try.prog 312 = some 8 := by kernel_rfl
attribute [simp] sz_312 agg_312 zero_312 bytes_312
theorem sz_313 : szOf Try.prog 313 = some 1 := by kernel_rfl
theorem agg_313 : aggOf Try.prog 313 = some false := by kernel_rfl
theorem zero_313 : zeroOf Try.prog 313 = some [.nilFunc] := by kernel_rfl
theorem bytes_313 : bytesOf Try.prog 313 = some 8 := by kernel_rfl
attribute [simp] sz_313 agg_313 zero_313 bytes_313
theorem sz_314 : szOf Try.prog 314 = some 1 := by kernel_rfl
theorem agg_314 : aggOf Try.prog 314 = some false := by kernel_rfl
theorem zero_314 : zeroOf Try.prog 314 = some [.nilFunc] := by kernel_rfl
theorem bytes_314 : bytesOf Try.prog 314 = some 8 := by kernel_rfl
attribute [simp] sz_314 agg_314 zero_314 bytes_314
theorem sz_315 : szOf Try.prog 315 = some 1 := by kernel_rfl
theorem agg_315 : aggOf Try.prog 315 = some false := by kernel_rfl
theorem zero_315 : zeroOf Try.prog 315 = some [.nilFunc] := by kernel_rfl
theorem bytes_315 : bytesOf Try.prog 315 = some 8 := by kernel_rfl
attribute [simp] sz_315 agg_315 zero_315 bytes_315
theorem sz_317 : szOf Try.prog 317 = some 1 := by kernel_rfl
theorem agg_317 : aggOf Try.prog 317 = some false := by kernel_rfl
theorem zero_317 : zeroOf Try.prog 317 = some [.nilFunc] := by kernel_rfl
theorem bytes_317 : bytesOf Try.prog 317 = some 8 := by kernel_rfl
attribute [simp] sz_317 agg_317 zero_317 bytes_317
theorem sz_318 : szOf Try.prog 318 = some 1 := by kernel_rfl
theorem agg_318 : aggOf Try.prog 318 = some false := by kernel_rfl
theorem zero_318 : zeroOf Try.prog 318 = some [.nilFunc] := by kernel_rfl
theorem bytes_318 : bytesOf Try.prog 318 = some 8 := by kernel_rfl
attribute [simp] sz_318 agg_318 zero_318 bytes_318
theorem sz_319 : szOf Try.prog 319 = some 1 := by kernel_rfl
theorem agg_319 : aggOf Try.prog 319 = some false := by kernel_rfl
theorem zero_319 : zeroOf Try.prog 319 = some [.nilFunc] := by kernel_rfl
theorem bytes_319 : bytesOf Try.prog 319 = some 8 := by kernel_rfl
attribute [simp] sz_319 agg_319 zero_319 bytes_319
theorem sz_320 : szOf Try.prog 320 = some 1 := by kernel_rfl
theorem agg_320 : aggOf Try.prog 320 = some false := by kernel_rfl
theorem zero_320 : zeroOf Try.prog 320 = some [.nilFunc] := by kernel_rfl
theorem bytes_320 : bytesOf Try.prog 320 = some 8 := by kernel_rfl
attribute [simp] sz_320 agg_320 zero_320 bytes_320
theorem sz_321 : szOf Try.prog 321 = some 1 := by kernel_rfl
theorem agg_321 : aggOf Try.prog 321 = some false := by kernel_rfl
theorem zero_321 : zeroOf Try.prog 321 = some [.nilFunc] := by kernel_rfl
theorem bytes_321 : bytesOf Try.prog 321 = some 8 := by kernel_rfl
attribute [simp] sz_321 agg_321 zero_321 bytes_321
theorem sz_322 : szOf Try.prog 322 = some 1 := by kernel_rfl
theorem agg_322 : aggOf Try.prog 322 = some false := by kernel_rfl
theorem zero_322 : zeroOf Try.prog 322 = some [.nilFunc] := by kernel_rfl
theorem bytes_322 : bytesOf Try.prog 322 = some 8 := by kernel_rfl
attribute [simp] sz_322 agg_322 zero_322 bytes_322
theorem sz_323 : szOf Try.prog 323 = some 1 := by kernel_rfl
theorem agg_323 : aggOf Try.prog 323 = some false := by kernel_rfl
theorem zero_323 : zeroOf Try.prog 323 = some [.nilFunc] := by kernel_rfl
theorem bytes_323 : bytesOf Try.prog 323 = some 8 := by kernel_rfl
attribute [simp] sz_323 agg_323 zero_323 bytes_323
theorem sz_324 : szOf Try.prog 324 = some 1 := by kernel_rfl
theorem agg_324 : aggOf Try.prog 324 = some false := by kernel_rfl
theorem zero_324 : zeroOf Try.prog 324 = some [.nilFunc] := by kernel_rfl
theorem bytes_324 : bytesOf Try.prog 324 = some 8 := by kernel_rfl
attribute [simp] sz_324 agg_324 zero_324 bytes_324
theorem sz_325 : szOf Try.prog 325 = some 1 := by kernel_rfl
theorem agg_325 : aggOf Try.prog 325 = some false := by kernel_rfl
theorem zero_325 : zeroOf Try.prog 325 = some [.nilFunc] := by kernel_rfl
theorem bytes_325 : bytesOf Try.prog 325 = some 8 := by kernel_rfl
attribute [simp] sz_325 agg_325 zero_325 bytes_325
theorem sz_326 : szOf Try.prog 326 = some 1 := by kernel_rfl
theorem agg_326 : aggOf Try.prog 326 = some false := by kernel_rfl
theorem zero_326 : zeroOf Try.prog 326 = some [.nilFunc] := by kernel_rfl
theorem bytes_326 : bytesOf Try.prog 326 = some 8 := by kernel_rfl
attribute [simp] sz_326 agg_326 zero_326 bytes_326
theorem sz_327 : szOf Try.prog 327 = some 1 := by kernel_rfl
theorem agg_327 : aggOf Try.prog 327 = some false := by kernel_rfl
theorem zero_327 : zeroOf Try.prog 327 = some [.pointer none] := by kernel_rfl
theorem bytes_327 : bytesOf Try.prog 327 = some 8 := by kernel_rfl
theorem ptr_327 : isPtr Try.prog 327 = true := by kernel_rfl
attribute [simp] sz_327 agg_327 zero_327 bytes_327 ptr_327
theorem sz_328 : szOf Try.prog 328 = some 1 := by kernel_rfl
theorem agg_328 : aggOf Try.prog 328 = some false := by kernel_rfl
theorem zero_328 : zeroOf Try.prog 328 = some [.nilFunc] := by kernel_rfl
theorem bytes_328 : bytesOf Try.prog 328 = some 8 := by kernel_rfl
attribute [simp] sz_328 agg_328 zero_328 bytes_328
theorem sz_329 : szOf Try.prog 329 = some 1 := by kernel_rfl
theorem agg_329 : aggOf Try.prog 329 = some false := by kernel_rfl
theorem zero_329 : zeroOf Try.prog 329 = some [.nilFunc] := by kernel_rfl
theorem bytes_329 : bytesOf Try.prog 329 = some 8 := by kernel_rfl
attribute [simp] sz_329 agg_329 zero_329 bytes_329
theorem sz_331 : szOf Try.prog 331 = some 1 := by kernel_rfl
theorem agg_331 : aggOf Try.prog 331 = some false := by kernel_rfl
theorem zero_331 : zeroOf Try.prog 331 = some [.nilFunc] := by kernel_rfl
theorem bytes_331 : bytesOf Try.prog 331 = some 8 := by kernel_rfl
attribute [simp] sz_331 agg_331 zero_331 bytes_331
theorem sz_332 : szOf Try.prog 332 = some 1 := by kernel_rfl
theorem agg_332 : aggOf Try.prog 332 = some false := by kernel_rfl
theorem zero_332 : zeroOf Try.prog 332 = some [.nilFunc] := by kernel_rfl
theorem bytes_332 : bytesOf Try.prog 332 = some 8 := by kernel_rfl
attribute [simp] sz_332 agg_332 zero_332 bytes_332
theorem sz_333 : szOf Try.prog 333 = some 1 := by kernel_rfl
theorem agg_333 : aggOf Try.prog 333 = some false := by kernel_rfl
theorem zero_333 : zeroOf Try.prog 333 = some [.nilFunc] := by kernel_rfl
theorem bytes_333 : bytesOf Try.prog 333 = some 8 := by kernel_rfl
attribute [simp] sz_333 agg_333 zero_333 bytes_333
theorem sz_334 : szOf Try.prog 334 = some 1 := by kernel_rfl
theorem agg_334 : aggOf Try.prog 334 = some false := by kernel_rfl
theorem zero_334 : zeroOf Try.prog 334 = some [.nilFunc] := by kernel_rfl
theorem bytes_334 : bytesOf Try.prog 334 = some 8 := by kernel_rfl
attribute [simp] sz_334 agg_334 zero_334 bytes_334
theorem sz_335 : szOf Try.prog 335 = some 1 := by kernel_rfl
theorem agg_335 : aggOf Try.prog 335 = some false := by kernel_rfl
theorem zero_335 : zeroOf Try.prog 335 = some [.nilFunc] := by kernel_rfl
theorem bytes_335 : bytesOf Try.prog 335 = some 8 := by kernel_rfl
attribute [simp] sz_335 agg_335 zero_335 bytes_335
theorem sz_336 : szOf Try.prog 336 = some 1 := by kernel_rfl
theorem agg_336 : aggOf Try.prog 336 = some false := by kernel_rfl
attribute [simp] sz_336 agg_336
theorem sz_337 : szOf Try.prog 337 = some 1 := by kernel_rfl
theorem agg_337 : aggOf Try.prog 337 = some false := by kernel_rfl
attribute [simp] sz_337 agg_337
theorem sz_338 : szOf Try.prog 338 = some 1 := by kernel_rfl
theorem agg_338 : aggOf Try.prog 338 = some false := by kernel_rfl
theorem zero_338 : zeroOf Try.prog 338 = some [.nilFunc] := by kernel_rfl
theorem bytes_338 : bytesOf Try.prog 338 = some 8 := by kernel_rfl
attribute [simp] sz_338 agg_338 zero_338 bytes_338
theorem sz_339 : szOf Try.prog 339 = some 1 := by kernel_rfl
theorem agg_339 : aggOf Try.prog 339 = some false := by kernel_rfl
theorem zero_339 : zeroOf Try.prog 339 = some [.pointer none] := by kernel_rfl
theorem bytes_339 : bytesOf Try.prog 339 = some 8 := by kernel_rfl
theorem ptr_339 : isPtr Try.prog 339 = true := by kernel_rfl
attribute [simp] sz_339 agg_339 zero_339 bytes_339 ptr_339
theorem sz_340 : szOf Try.prog 340 = some 4 := by kernel_rfl
theorem agg_340 : aggOf Try.prog 340 = some true := by kernel_rfl
theorem zero_340 : zeroOf Try.prog 340 = some [.pointer none, .pointer none, .pointer none, .string ⟨#[]⟩] := by kernel_rfl
theorem bytes_340 : bytesOf Try.prog 340 = some 40 := by kernel_rfl
theorem field_340x0 : fieldOf Try.prog 340 0 = some (17, 0) := by kernel_rfl
theorem field_340x1 : fieldOf Try.prog 340 1 = some (17, 1) := by kernel_rfl
theorem field_340x2 : fieldOf Try.prog 340 2 = some (17, 2) := by kernel_rfl
theorem field_340x3 : fieldOf Try.prog 340 3 = some (9, 3) := by kernel_rfl
theorem places_340 : placesOf Try.prog 340 = some [(0, 1), (1, 1), (2, 1), (3, 1)] := by kernel_rfl
attribute [simp] sz_340 agg_340 zero_340 bytes_340 field_340x0 field_340x1 field_340x2 field_340x3 places_340
theorem sz_341 : szOf Try.prog 341 = some 4 := by kernel_rfl
theorem agg_341 : aggOf Try.prog 341 = some true := by kernel_rfl
theorem zero_341 : zeroOf Try.prog 341 = some [.pointer none, .pointer none, .pointer none, .string ⟨#[]⟩] := by kernel_rfl
theorem bytes_341 : bytesOf Try.prog 341 = some 40 := by kernel_rfl
theorem field_341x0 : fieldOf Try.prog 341 0 = some (17, 0) := by kernel_rfl
theorem field_341x1 : fieldOf Try.prog 341 1 = some (17, 1) := by kernel_rfl
theorem field_341x2 : fieldOf Try.prog 341 2 = some (17, 2) := by kernel_rfl
theorem field_341x3 : fieldOf Try.prog 341 3 = some (9, 3) := by kernel_rfl
theorem places_341 : placesOf Try.prog 341 = some [(0, 1), (1, 1), (2, 1), (3, 1)] := by kernel_rfl
attribute [simp] sz_341 agg_341 zero_341 bytes_341 field_341x0 field_341x1 field_341x2 field_341x3 places_341
theorem sz_342 : szOf Try.prog 342 = some 0 := by kernel_rfl
theorem agg_342 : aggOf Try.prog 342 = some true := by kernel_rfl
theorem zero_342 : zeroOf Try.prog 342 = some [] := by kernel_rfl
theorem bytes_342 : bytesOf Try.prog 342 = some 0 := by kernel_rfl
attribute [simp] sz_342 agg_342 zero_342 bytes_342
theorem sz_343 : szOf Try.prog 343 = some 0 := by kernel_rfl
theorem agg_343 : aggOf Try.prog 343 = some true := by kernel_rfl
theorem zero_343 : zeroOf Try.prog 343 = some [] := by kernel_rfl
theorem bytes_343 : bytesOf Try.prog 343 = some 0 := by kernel_rfl
theorem field_343x0 : fieldOf Try.prog 343 0 = some (342, 0) := by kernel_rfl
theorem places_343 : placesOf Try.prog 343 = some [(0, 0)] := by kernel_rfl
attribute [simp] sz_343 agg_343 zero_343 bytes_343 field_343x0 places_343
theorem sz_344 : szOf Try.prog 344 = some 0 := by kernel_rfl
theorem agg_344 : aggOf Try.prog 344 = some true := by kernel_rfl
theorem zero_344 : zeroOf Try.prog 344 = some [] := by kernel_rfl
theorem bytes_344 : bytesOf Try.prog 344 = some 0 := by kernel_rfl
theorem field_344x0 : fieldOf Try.prog 344 0 = some (342, 0) := by kernel_rfl
theorem places_344 : placesOf Try.prog 344 = some [(0, 0)] := by kernel_rfl
attribute [simp] sz_344 agg_344 zero_344 bytes_344 field_344x0 places_344
theorem sz_345 : szOf Try.prog 345 = some 1 := by kernel_rfl
theorem agg_345 : aggOf Try.prog 345 = some false := by kernel_rfl
theorem zero_345 : zeroOf Try.prog 345 = some [.int .u8 0] := by kernel_rfl
theorem bytes_345 : bytesOf Try.prog 345 = some 1 := by kernel_rfl
theorem int_345 : intOfT Try.prog 345 = some .u8 := by kernel_rfl
theorem und_345 : (Try.prog.underlying 345).isSome = true := by kernel_rfl
attribute [simp] sz_345 agg_345 zero_345 bytes_345 int_345 und_345
theorem sz_346 : szOf Try.prog 346 = some 1 := by kernel_rfl
theorem agg_346 : aggOf Try.prog 346 = some false := by kernel_rfl
theorem zero_346 : zeroOf Try.prog 346 = some [.int .u8 0] := by kernel_rfl
theorem bytes_346 : bytesOf Try.prog 346 = some 1 := by kernel_rfl
theorem int_346 : intOfT Try.prog 346 = some .u8 := by kernel_rfl
theorem und_346 : (Try.prog.underlying 346).isSome = true := by kernel_rfl
attribute [simp] sz_346 agg_346 zero_346 bytes_346 int_346 und_346
theorem sz_347 : szOf Try.prog 347 = some 1 := by kernel_rfl
theorem agg_347 : aggOf Try.prog 347 = some false := by kernel_rfl
theorem zero_347 : zeroOf Try.prog 347 = some [.nilFunc] := by kernel_rfl
theorem bytes_347 : bytesOf Try.prog 347 = some 8 := by kernel_rfl
attribute [simp] sz_347 agg_347 zero_347 bytes_347
theorem sz_348 : szOf Try.prog 348 = some 1 := by kernel_rfl
theorem agg_348 : aggOf Try.prog 348 = some false := by kernel_rfl
theorem zero_348 : zeroOf Try.prog 348 = some [.pointer none] := by kernel_rfl
theorem bytes_348 : bytesOf Try.prog 348 = some 8 := by kernel_rfl
theorem ptr_348 : isPtr Try.prog 348 = true := by kernel_rfl
attribute [simp] sz_348 agg_348 zero_348 bytes_348 ptr_348
theorem sz_349 : szOf Try.prog 349 = some 1 := by kernel_rfl
theorem agg_349 : aggOf Try.prog 349 = some false := by kernel_rfl
theorem zero_349 : zeroOf Try.prog 349 = some [.int .i32 0] := by kernel_rfl
theorem bytes_349 : bytesOf Try.prog 349 = some 4 := by kernel_rfl
theorem int_349 : intOfT Try.prog 349 = some .i32 := by kernel_rfl
theorem und_349 : (Try.prog.underlying 349).isSome = true := by kernel_rfl
attribute [simp] sz_349 agg_349 zero_349 bytes_349 int_349 und_349
theorem sz_350 : szOf Try.prog 350 = some 1 := by kernel_rfl
theorem agg_350 : aggOf Try.prog 350 = some false := by kernel_rfl
theorem zero_350 : zeroOf Try.prog 350 = some [.int .i32 0] := by kernel_rfl
theorem bytes_350 : bytesOf Try.prog 350 = some 4 := by kernel_rfl
theorem int_350 : intOfT Try.prog 350 = some .i32 := by kernel_rfl
theorem und_350 : (Try.prog.underlying 350).isSome = true := by kernel_rfl
attribute [simp] sz_350 agg_350 zero_350 bytes_350 int_350 und_350
theorem sz_351 : szOf Try.prog 351 = some 11 := by kernel_rfl
theorem agg_351 : aggOf Try.prog 351 = some true := by kernel_rfl
theorem zero_351 : zeroOf Try.prog 351 = some [.int .u64 0, .int .u64 0, .int .u32 0, .int .u8 0, .int .u8 0, .int .u8 0, .int .u8 0, .nilFunc, .pointer none, .int .i32 0, .int .i32 0] := by kernel_rfl
theorem bytes_351 : bytesOf Try.prog 351 = some 48 := by kernel_rfl
theorem field_351x0 : fieldOf Try.prog 351 0 = some (12, 0) := by kernel_rfl
theorem field_351x1 : fieldOf Try.prog 351 1 = some (12, 1) := by kernel_rfl
theorem field_351x2 : fieldOf Try.prog 351 2 = some (295, 2) := by kernel_rfl
theorem field_351x3 : fieldOf Try.prog 351 3 = some (345, 3) := by kernel_rfl
theorem field_351x4 : fieldOf Try.prog 351 4 = some (5, 4) := by kernel_rfl
theorem field_351x5 : fieldOf Try.prog 351 5 = some (5, 5) := by kernel_rfl
theorem field_351x6 : fieldOf Try.prog 351 6 = some (346, 6) := by kernel_rfl
theorem field_351x7 : fieldOf Try.prog 351 7 = some (347, 7) := by kernel_rfl
theorem field_351x8 : fieldOf Try.prog 351 8 = some (348, 8) := by kernel_rfl
theorem field_351x9 : fieldOf Try.prog 351 9 = some (349, 9) := by kernel_rfl
theorem field_351x10 : fieldOf Try.prog 351 10 = some (350, 10) := by kernel_rfl
theorem places_351 : placesOf Try.prog 351 = some [(0, 1), (1, 1), (2, 1), (3, 1), (4, 1), (5, 1), (6, 1), (7, 1), (8, 1), (9, 1), (10, 1)] := by kernel_rfl
attribute [simp] sz_351 agg_351 zero_351 bytes_351 field_351x0 field_351x1 field_351x2 field_351x3 field_351x4 field_351x5 field_351x6 field_351x7 field_351x8 field_351x9 field_351x10 places_351
theorem sz_352 : szOf Try.prog 352 = some 11 := by kernel_rfl
theorem agg_352 : aggOf Try.prog 352 = some true := by kernel_rfl
theorem zero_352 : zeroOf Try.prog 352 = some [.int .u64 0, .int .u64 0, .int .u32 0, .int .u8 0, .int .u8 0, .int .u8 0, .int .u8 0, .nilFunc, .pointer none, .int .i32 0, .int .i32 0] := by kernel_rfl
theorem bytes_352 : bytesOf Try.prog 352 = some 48 := by kernel_rfl
theorem field_352x0 : fieldOf Try.prog 352 0 = some (12, 0) := by kernel_rfl
theorem field_352x1 : fieldOf Try.prog 352 1 = some (12, 1) := by kernel_rfl
theorem field_352x2 : fieldOf Try.prog 352 2 = some (295, 2) := by kernel_rfl
theorem field_352x3 : fieldOf Try.prog 352 3 = some (345, 3) := by kernel_rfl
theorem field_352x4 : fieldOf Try.prog 352 4 = some (5, 4) := by kernel_rfl
theorem field_352x5 : fieldOf Try.prog 352 5 = some (5, 5) := by kernel_rfl
theorem field_352x6 : fieldOf Try.prog 352 6 = some (346, 6) := by kernel_rfl
theorem field_352x7 : fieldOf Try.prog 352 7 = some (347, 7) := by kernel_rfl
theorem field_352x8 : fieldOf Try.prog 352 8 = some (348, 8) := by kernel_rfl
theorem field_352x9 : fieldOf Try.prog 352 9 = some (349, 9) := by kernel_rfl
theorem field_352x10 : fieldOf Try.prog 352 10 = some (350, 10) := by kernel_rfl
theorem places_352 : placesOf Try.prog 352 = some [(0, 1), (1, 1), (2, 1), (3, 1), (4, 1), (5, 1), (6, 1), (7, 1), (8, 1), (9, 1), (10, 1)] := by kernel_rfl
attribute [simp] sz_352 agg_352 zero_352 bytes_352 field_352x0 field_352x1 field_352x2 field_352x3 field_352x4 field_352x5 field_352x6 field_352x7 field_352x8 field_352x9 field_352x10 places_352
theorem sz_353 : szOf Try.prog 353 = some 1 := by kernel_rfl
theorem agg_353 : aggOf Try.prog 353 = some false := by kernel_rfl
theorem zero_353 : zeroOf Try.prog 353 = some [.nilFunc] := by kernel_rfl
theorem bytes_353 : bytesOf Try.prog 353 = some 8 := by kernel_rfl
attribute [simp] sz_353 agg_353 zero_353 bytes_353
theorem sz_354 : szOf Try.prog 354 = some 1 := by kernel_rfl
theorem agg_354 : aggOf Try.prog 354 = some false := by kernel_rfl
theorem zero_354 : zeroOf Try.prog 354 = some [.nilFunc] := by kernel_rfl
theorem bytes_354 : bytesOf Try.prog 354 = some 8 := by kernel_rfl
attribute [simp] sz_354 agg_354 zero_354 bytes_354
theorem sz_355 : szOf Try.prog 355 = some 1 := by kernel_rfl
theorem agg_355 : aggOf Try.prog 355 = some false := by kernel_rfl
theorem zero_355 : zeroOf Try.prog 355 = some [.nilFunc] := by kernel_rfl
theorem bytes_355 : bytesOf Try.prog 355 = some 8 := by kernel_rfl
attribute [simp] sz_355 agg_355 zero_355 bytes_355
theorem sz_356 : szOf Try.prog 356 = some 1 := by kernel_rfl
theorem agg_356 : aggOf Try.prog 356 = some true := by kernel_rfl
theorem zero_356 : zeroOf Try.prog 356 = some [.string ⟨#[]⟩] := by kernel_rfl
theorem bytes_356 : bytesOf Try.prog 356 = some 16 := by kernel_rfl
theorem eqf_356 : eqfOf Try.prog 356 = some [(9, 0)] := by kernel_rfl
theorem ng_356 : noGuard Try.prog 356 = true := by kernel_rfl
theorem field_356x0 : fieldOf Try.prog 356 0 = some (9, 0) := by kernel_rfl
theorem places_356 : placesOf Try.prog 356 = some [(0, 1)] := by kernel_rfl
attribute [simp] sz_356 agg_356 zero_356 bytes_356 eqf_356 ng_356 field_356x0 places_356
theorem sz_357 : szOf Try.prog 357 = some 1 := by kernel_rfl
theorem agg_357 : aggOf Try.prog 357 = some true := by kernel_rfl
theorem zero_357 : zeroOf Try.prog 357 = some [.string ⟨#[]⟩] := by kernel_rfl
theorem bytes_357 : bytesOf Try.prog 357 = some 16 := by kernel_rfl
theorem eqf_357 : eqfOf Try.prog 357 = some [(9, 0)] := by kernel_rfl
theorem ng_357 : noGuard Try.prog 357 = true := by kernel_rfl
theorem field_357x0 : fieldOf Try.prog 357 0 = some (9, 0) := by kernel_rfl
theorem places_357 : placesOf Try.prog 357 = some [(0, 1)] := by kernel_rfl
attribute [simp] sz_357 agg_357 zero_357 bytes_357 eqf_357 ng_357 field_357x0 places_357
theorem sz_358 : szOf Try.prog 358 = some 1 := by kernel_rfl
theorem agg_358 : aggOf Try.prog 358 = some false := by kernel_rfl
theorem zero_358 : zeroOf Try.prog 358 = some [.pointer none] := by kernel_rfl
theorem bytes_358 : bytesOf Try.prog 358 = some 8 := by kernel_rfl
attribute [simp] sz_358 agg_358 zero_358 bytes_358
theorem sz_359 : szOf Try.prog 359 = some 1 := by kernel_rfl
theorem agg_359 : aggOf Try.prog 359 = some false := by kernel_rfl
theorem zero_359 : zeroOf Try.prog 359 = some [.nilFunc] := by kernel_rfl
theorem bytes_359 : bytesOf Try.prog 359 = some 8 := by kernel_rfl
attribute [simp] sz_359 agg_359 zero_359 bytes_359
theorem sz_360 : szOf Try.prog 360 = some 1 := by kernel_rfl
theorem agg_360 : aggOf Try.prog 360 = some false := by kernel_rfl
theorem zero_360 : zeroOf Try.prog 360 = some [.nilFunc] := by kernel_rfl
theorem bytes_360 : bytesOf Try.prog 360 = some 8 := by kernel_rfl
attribute [simp] sz_360 agg_360 zero_360 bytes_360
theorem sz_361 : szOf Try.prog 361 = some 1 := by kernel_rfl
theorem agg_361 : aggOf Try.prog 361 = some false := by kernel_rfl
theorem zero_361 : zeroOf Try.prog 361 = some [.nilFunc] := by kernel_rfl
theorem bytes_361 : bytesOf Try.prog 361 = some 8 := by kernel_rfl
attribute [simp] sz_361 agg_361 zero_361 bytes_361
theorem sz_362 : szOf Try.prog 362 = some 1 := by kernel_rfl
theorem agg_362 : aggOf Try.prog 362 = some false := by kernel_rfl
theorem zero_362 : zeroOf Try.prog 362 = some [.nilFunc] := by kernel_rfl
theorem bytes_362 : bytesOf Try.prog 362 = some 8 := by kernel_rfl
attribute [simp] sz_362 agg_362 zero_362 bytes_362
theorem sz_363 : szOf Try.prog 363 = some 1 := by kernel_rfl
theorem agg_363 : aggOf Try.prog 363 = some false := by kernel_rfl
theorem zero_363 : zeroOf Try.prog 363 = some [.nilFunc] := by kernel_rfl
theorem bytes_363 : bytesOf Try.prog 363 = some 8 := by kernel_rfl
attribute [simp] sz_363 agg_363 zero_363 bytes_363
@[simp] theorem en_3 : enterable Try.prog 3 = true := by kernel_rfl
@[simp] theorem en_4 : enterable Try.prog 4 = true := by kernel_rfl
@[simp] theorem en_5 : enterable Try.prog 5 = true := by kernel_rfl
@[simp] theorem en_6 : enterable Try.prog 6 = true := by kernel_rfl
@[simp] theorem en_7 : enterable Try.prog 7 = true := by kernel_rfl
@[simp] theorem en_8 : enterable Try.prog 8 = true := by kernel_rfl
@[simp] theorem en_9 : enterable Try.prog 9 = true := by kernel_rfl
@[simp] theorem en_10 : enterable Try.prog 10 = true := by kernel_rfl
@[simp] theorem en_11 : enterable Try.prog 11 = true := by kernel_rfl
@[simp] theorem en_12 : enterable Try.prog 12 = true := by kernel_rfl
@[simp] theorem en_13 : enterable Try.prog 13 = true := by kernel_rfl
@[simp] theorem en_14 : enterable Try.prog 14 = true := by kernel_rfl
@[simp] theorem en_15 : enterable Try.prog 15 = true := by kernel_rfl
@[simp] theorem en_16 : enterable Try.prog 16 = true := by kernel_rfl
@[simp] theorem en_17 : enterable Try.prog 17 = true := by kernel_rfl
@[simp] theorem en_18 : enterable Try.prog 18 = true := by kernel_rfl
@[simp] theorem en_19 : enterable Try.prog 19 = true := by kernel_rfl
@[simp] theorem en_20 : enterable Try.prog 20 = true := by kernel_rfl
@[simp] theorem en_21 : enterable Try.prog 21 = true := by kernel_rfl
@[simp] theorem en_22 : enterable Try.prog 22 = true := by kernel_rfl
@[simp] theorem en_23 : enterable Try.prog 23 = true := by kernel_rfl
@[simp] theorem en_24 : enterable Try.prog 24 = true := by kernel_rfl
@[simp] theorem en_25 : enterable Try.prog 25 = true := by kernel_rfl
@[simp] theorem en_26 : enterable Try.prog 26 = true := by kernel_rfl
@[simp] theorem en_27 : enterable Try.prog 27 = true := by kernel_rfl
@[simp] theorem en_28 : enterable Try.prog 28 = true := by kernel_rfl
@[simp] theorem en_29 : enterable Try.prog 29 = true := by kernel_rfl
@[simp] theorem en_30 : enterable Try.prog 30 = true := by kernel_rfl
@[simp] theorem en_31 : enterable Try.prog 31 = true := by kernel_rfl
@[simp] theorem en_32 : enterable Try.prog 32 = true := by kernel_rfl
@[simp] theorem en_33 : enterable Try.prog 33 = true := by kernel_rfl
@[simp] theorem en_34 : enterable Try.prog 34 = true := by kernel_rfl
@[simp] theorem en_35 : enterable Try.prog 35 = true := by kernel_rfl
@[simp] theorem en_36 : enterable Try.prog 36 = true := by kernel_rfl
@[simp] theorem en_37 : enterable Try.prog 37 = true := by kernel_rfl
@[simp] theorem en_38 : enterable Try.prog 38 = true := by kernel_rfl
@[simp] theorem en_39 : enterable Try.prog 39 = true := by kernel_rfl
@[simp] theorem en_40 : enterable Try.prog 40 = true := by kernel_rfl
@[simp] theorem en_41 : enterable Try.prog 41 = true := by kernel_rfl
@[simp] theorem en_42 : enterable Try.prog 42 = true := by kernel_rfl
@[simp] theorem en_43 : enterable Try.prog 43 = true := by kernel_rfl
@[simp] theorem en_44 : enterable Try.prog 44 = true := by kernel_rfl
@[simp] theorem en_45 : enterable Try.prog 45 = true := by kernel_rfl
@[simp] theorem en_46 : enterable Try.prog 46 = true := by kernel_rfl
@[simp] theorem en_47 : enterable Try.prog 47 = true := by kernel_rfl
@[simp] theorem en_48 : enterable Try.prog 48 = true := by kernel_rfl
@[simp] theorem en_49 : enterable Try.prog 49 = true := by kernel_rfl
@[simp] theorem en_50 : enterable Try.prog 50 = true := by kernel_rfl
@[simp] theorem en_51 : enterable Try.prog 51 = true := by kernel_rfl
@[simp] theorem en_52 : enterable Try.prog 52 = true := by kernel_rfl
@[simp] theorem en_53 : enterable Try.prog 53 = true := by kernel_rfl
@[simp] theorem en_54 : enterable Try.prog 54 = true := by kernel_rfl
@[simp] theorem en_55 : enterable Try.prog 55 = true := by kernel_rfl
@[simp] theorem en_56 : enterable Try.prog 56 = true := by kernel_rfl
@[simp] theorem en_57 : enterable Try.prog 57 = true := by kernel_rfl
@[simp] theorem en_58 : enterable Try.prog 58 = true := by kernel_rfl
@[simp] theorem en_59 : enterable Try.prog 59 = true := by kernel_rfl
@[simp] theorem en_60 : enterable Try.prog 60 = true := by kernel_rfl
@[simp] theorem en_61 : enterable Try.prog 61 = true := by kernel_rfl
@[simp] theorem en_62 : enterable Try.prog 62 = true := by kernel_rfl
@[simp] theorem en_63 : enterable Try.prog 63 = true := by kernel_rfl
@[simp] theorem en_64 : enterable Try.prog 64 = true := by kernel_rfl
@[simp] theorem en_65 : enterable Try.prog 65 = true := by kernel_rfl
@[simp] theorem en_66 : enterable Try.prog 66 = true := by kernel_rfl
@[simp] theorem en_67 : enterable Try.prog 67 = true := by kernel_rfl
@[simp] theorem en_68 : enterable Try.prog 68 = true := by kernel_rfl
@[simp] theorem en_69 : enterable Try.prog 69 = true := by kernel_rfl
@[simp] theorem en_70 : enterable Try.prog 70 = true := by kernel_rfl
@[simp] theorem en_71 : enterable Try.prog 71 = true := by kernel_rfl
@[simp] theorem en_72 : enterable Try.prog 72 = true := by kernel_rfl
@[simp] theorem en_73 : enterable Try.prog 73 = true := by kernel_rfl
@[simp] theorem en_74 : enterable Try.prog 74 = true := by kernel_rfl
@[simp] theorem en_75 : enterable Try.prog 75 = true := by kernel_rfl
@[simp] theorem en_76 : enterable Try.prog 76 = true := by kernel_rfl
@[simp] theorem en_77 : enterable Try.prog 77 = true := by kernel_rfl
@[simp] theorem en_78 : enterable Try.prog 78 = true := by kernel_rfl
@[simp] theorem en_79 : enterable Try.prog 79 = true := by kernel_rfl
@[simp] theorem en_80 : enterable Try.prog 80 = true := by kernel_rfl
@[simp] theorem en_81 : enterable Try.prog 81 = true := by kernel_rfl
@[simp] theorem en_82 : enterable Try.prog 82 = true := by kernel_rfl
@[simp] theorem en_83 : enterable Try.prog 83 = true := by kernel_rfl
@[simp] theorem en_84 : enterable Try.prog 84 = true := by kernel_rfl
@[simp] theorem en_85 : enterable Try.prog 85 = true := by kernel_rfl
@[simp] theorem en_86 : enterable Try.prog 86 = true := by kernel_rfl
@[simp] theorem en_87 : enterable Try.prog 87 = true := by kernel_rfl
@[simp] theorem en_88 : enterable Try.prog 88 = true := by kernel_rfl
@[simp] theorem en_89 : enterable Try.prog 89 = true := by kernel_rfl
@[simp] theorem en_90 : enterable Try.prog 90 = true := by kernel_rfl
@[simp] theorem en_91 : enterable Try.prog 91 = true := by kernel_rfl
@[simp] theorem en_92 : enterable Try.prog 92 = true := by kernel_rfl
@[simp] theorem en_93 : enterable Try.prog 93 = true := by kernel_rfl
@[simp] theorem en_94 : enterable Try.prog 94 = true := by kernel_rfl
@[simp] theorem en_95 : enterable Try.prog 95 = true := by kernel_rfl
@[simp] theorem en_96 : enterable Try.prog 96 = true := by kernel_rfl
@[simp] theorem en_97 : enterable Try.prog 97 = true := by kernel_rfl
@[simp] theorem en_98 : enterable Try.prog 98 = true := by kernel_rfl
@[simp] theorem en_99 : enterable Try.prog 99 = true := by kernel_rfl
@[simp] theorem en_100 : enterable Try.prog 100 = true := by kernel_rfl
@[simp] theorem en_101 : enterable Try.prog 101 = true := by kernel_rfl
@[simp] theorem en_102 : enterable Try.prog 102 = true := by kernel_rfl
@[simp] theorem en_103 : enterable Try.prog 103 = true := by kernel_rfl
@[simp] theorem en_104 : enterable Try.prog 104 = true := by kernel_rfl
@[simp] theorem en_105 : enterable Try.prog 105 = true := by kernel_rfl
@[simp] theorem en_106 : enterable Try.prog 106 = true := by kernel_rfl
@[simp] theorem en_107 : enterable Try.prog 107 = true := by kernel_rfl
@[simp] theorem en_108 : enterable Try.prog 108 = true := by kernel_rfl
@[simp] theorem en_109 : enterable Try.prog 109 = true := by kernel_rfl
@[simp] theorem en_110 : enterable Try.prog 110 = true := by kernel_rfl
@[simp] theorem en_111 : enterable Try.prog 111 = true := by kernel_rfl
@[simp] theorem en_112 : enterable Try.prog 112 = true := by kernel_rfl
@[simp] theorem en_113 : enterable Try.prog 113 = true := by kernel_rfl
@[simp] theorem en_114 : enterable Try.prog 114 = true := by kernel_rfl
@[simp] theorem en_115 : enterable Try.prog 115 = true := by kernel_rfl
@[simp] theorem en_116 : enterable Try.prog 116 = true := by kernel_rfl
@[simp] theorem en_117 : enterable Try.prog 117 = true := by kernel_rfl
@[simp] theorem en_118 : enterable Try.prog 118 = true := by kernel_rfl
@[simp] theorem en_119 : enterable Try.prog 119 = true := by kernel_rfl
@[simp] theorem en_120 : enterable Try.prog 120 = true := by kernel_rfl
@[simp] theorem en_121 : enterable Try.prog 121 = true := by kernel_rfl
@[simp] theorem en_122 : enterable Try.prog 122 = true := by kernel_rfl
@[simp] theorem en_123 : enterable Try.prog 123 = true := by kernel_rfl
@[simp] theorem en_124 : enterable Try.prog 124 = true := by kernel_rfl
@[simp] theorem en_125 : enterable Try.prog 125 = true := by kernel_rfl
@[simp] theorem en_126 : enterable Try.prog 126 = true := by kernel_rfl
@[simp] theorem en_127 : enterable Try.prog 127 = true := by kernel_rfl
@[simp] theorem en_128 : enterable Try.prog 128 = true := by kernel_rfl
@[simp] theorem en_129 : enterable Try.prog 129 = true := by kernel_rfl
@[simp] theorem en_130 : enterable Try.prog 130 = true := by kernel_rfl
@[simp] theorem en_131 : enterable Try.prog 131 = true := by kernel_rfl
@[simp] theorem en_132 : enterable Try.prog 132 = true := by kernel_rfl
@[simp] theorem en_133 : enterable Try.prog 133 = true := by kernel_rfl
@[simp] theorem en_134 : enterable Try.prog 134 = true := by kernel_rfl
@[simp] theorem en_135 : enterable Try.prog 135 = true := by kernel_rfl
@[simp] theorem en_136 : enterable Try.prog 136 = true := by kernel_rfl
@[simp] theorem en_137 : enterable Try.prog 137 = true := by kernel_rfl
@[simp] theorem en_138 : enterable Try.prog 138 = true := by kernel_rfl
@[simp] theorem en_139 : enterable Try.prog 139 = true := by kernel_rfl
@[simp] theorem en_140 : enterable Try.prog 140 = true := by kernel_rfl
@[simp] theorem en_141 : enterable Try.prog 141 = true := by kernel_rfl
@[simp] theorem en_142 : enterable Try.prog 142 = true := by kernel_rfl
@[simp] theorem en_143 : enterable Try.prog 143 = true := by kernel_rfl
@[simp] theorem en_144 : enterable Try.prog 144 = true := by kernel_rfl
@[simp] theorem en_145 : enterable Try.prog 145 = true := by kernel_rfl
@[simp] theorem en_146 : enterable Try.prog 146 = true := by kernel_rfl
@[simp] theorem en_147 : enterable Try.prog 147 = true := by kernel_rfl
@[simp] theorem en_148 : enterable Try.prog 148 = true := by kernel_rfl
@[simp] theorem en_149 : enterable Try.prog 149 = true := by kernel_rfl
@[simp] theorem en_150 : enterable Try.prog 150 = true := by kernel_rfl
@[simp] theorem en_151 : enterable Try.prog 151 = true := by kernel_rfl
@[simp] theorem en_152 : enterable Try.prog 152 = true := by kernel_rfl
@[simp] theorem en_153 : enterable Try.prog 153 = true := by kernel_rfl
@[simp] theorem en_154 : enterable Try.prog 154 = true := by kernel_rfl
@[simp] theorem en_155 : enterable Try.prog 155 = true := by kernel_rfl
@[simp] theorem en_156 : enterable Try.prog 156 = true := by kernel_rfl
@[simp] theorem en_157 : enterable Try.prog 157 = true := by kernel_rfl
@[simp] theorem en_158 : enterable Try.prog 158 = true := by kernel_rfl
@[simp] theorem en_159 : enterable Try.prog 159 = true := by kernel_rfl
@[simp] theorem en_160 : enterable Try.prog 160 = true := by kernel_rfl
@[simp] theorem en_161 : enterable Try.prog 161 = true := by kernel_rfl
@[simp] theorem en_162 : enterable Try.prog 162 = true := by kernel_rfl
@[simp] theorem en_163 : enterable Try.prog 163 = true := by kernel_rfl
@[simp] theorem en_164 : enterable Try.prog 164 = true := by kernel_rfl
@[simp] theorem en_165 : enterable Try.prog 165 = true := by kernel_rfl
@[simp] theorem en_166 : enterable Try.prog 166 = true := by kernel_rfl
@[simp] theorem en_167 : enterable Try.prog 167 = true := by kernel_rfl
@[simp] theorem en_168 : enterable Try.prog 168 = true := by kernel_rfl
@[simp] theorem en_169 : enterable Try.prog 169 = true := by kernel_rfl
@[simp] theorem en_170 : enterable Try.prog 170 = true := by kernel_rfl
@[simp] theorem en_171 : enterable Try.prog 171 = true := by kernel_rfl
@[simp] theorem en_172 : enterable Try.prog 172 = true := by kernel_rfl
@[simp] theorem en_173 : enterable Try.prog 173 = true := by kernel_rfl
@[simp] theorem en_174 : enterable Try.prog 174 = true := by kernel_rfl
@[simp] theorem en_175 : enterable Try.prog 175 = true := by kernel_rfl
@[simp] theorem en_176 : enterable Try.prog 176 = true := by kernel_rfl
@[simp] theorem en_177 : enterable Try.prog 177 = true := by kernel_rfl
@[simp] theorem en_178 : enterable Try.prog 178 = true := by kernel_rfl
@[simp] theorem en_179 : enterable Try.prog 179 = true := by kernel_rfl
@[simp] theorem en_180 : enterable Try.prog 180 = true := by kernel_rfl
@[simp] theorem en_181 : enterable Try.prog 181 = true := by kernel_rfl
@[simp] theorem en_182 : enterable Try.prog 182 = true := by kernel_rfl
@[simp] theorem en_183 : enterable Try.prog 183 = true := by kernel_rfl
@[simp] theorem en_184 : enterable Try.prog 184 = true := by kernel_rfl
@[simp] theorem en_185 : enterable Try.prog 185 = true := by kernel_rfl
@[simp] theorem en_186 : enterable Try.prog 186 = true := by kernel_rfl
@[simp] theorem en_187 : enterable Try.prog 187 = true := by kernel_rfl
@[simp] theorem en_188 : enterable Try.prog 188 = true := by kernel_rfl
@[simp] theorem en_189 : enterable Try.prog 189 = true := by kernel_rfl
@[simp] theorem en_190 : enterable Try.prog 190 = true := by kernel_rfl
@[simp] theorem en_191 : enterable Try.prog 191 = true := by kernel_rfl
@[simp] theorem en_192 : enterable Try.prog 192 = true := by kernel_rfl
@[simp] theorem en_193 : enterable Try.prog 193 = true := by kernel_rfl
@[simp] theorem en_194 : enterable Try.prog 194 = true := by kernel_rfl
@[simp] theorem en_195 : enterable Try.prog 195 = true := by kernel_rfl
@[simp] theorem en_196 : enterable Try.prog 196 = true := by kernel_rfl
@[simp] theorem en_198 : enterable Try.prog 198 = true := by kernel_rfl
@[simp] theorem en_200 : enterable Try.prog 200 = true := by kernel_rfl
@[simp] theorem en_201 : enterable Try.prog 201 = true := by kernel_rfl
@[simp] theorem en_202 : enterable Try.prog 202 = true := by kernel_rfl
@[simp] theorem en_203 : enterable Try.prog 203 = true := by kernel_rfl
@[simp] theorem en_204 : enterable Try.prog 204 = true := by kernel_rfl
@[simp] theorem en_205 : enterable Try.prog 205 = true := by kernel_rfl
@[simp] theorem en_206 : enterable Try.prog 206 = true := by kernel_rfl
@[simp] theorem en_207 : enterable Try.prog 207 = true := by kernel_rfl
@[simp] theorem en_208 : enterable Try.prog 208 = true := by kernel_rfl
@[simp] theorem en_209 : enterable Try.prog 209 = true := by kernel_rfl
@[simp] theorem en_210 : enterable Try.prog 210 = true := by kernel_rfl
@[simp] theorem en_211 : enterable Try.prog 211 = true := by kernel_rfl
@[simp] theorem en_212 : enterable Try.prog 212 = true := by kernel_rfl
@[simp] theorem en_213 : enterable Try.prog 213 = true := by kernel_rfl
@[simp] theorem en_214 : enterable Try.prog 214 = true := by kernel_rfl
@[simp] theorem en_215 : enterable Try.prog 215 = true := by kernel_rfl
@[simp] theorem en_216 : enterable Try.prog 216 = true := by kernel_rfl
@[simp] theorem en_217 : enterable Try.prog 217 = true := by kernel_rfl
@[simp] theorem en_218 : enterable Try.prog 218 = true := by kernel_rfl
@[simp] theorem en_219 : enterable Try.prog 219 = true := by kernel_rfl
@[simp] theorem en_220 : enterable Try.prog 220 = true := by kernel_rfl
@[simp] theorem en_221 : enterable Try.prog 221 = true := by kernel_rfl
@[simp] theorem en_222 : enterable Try.prog 222 = true := by kernel_rfl
@[simp] theorem en_223 : enterable Try.prog 223 = true := by kernel_rfl
@[simp] theorem en_224 : enterable Try.prog 224 = true := by kernel_rfl
@[simp] theorem en_225 : enterable Try.prog 225 = true := by kernel_rfl
@[simp] theorem en_226 : enterable Try.prog 226 = true := by kernel_rfl
@[simp] theorem en_227 : enterable Try.prog 227 = true := by kernel_rfl
@[simp] theorem en_228 : enterable Try.prog 228 = true := by kernel_rfl
@[simp] theorem en_229 : enterable Try.prog 229 = true := by kernel_rfl
@[simp] theorem en_230 : enterable Try.prog 230 = true := by kernel_rfl
@[simp] theorem en_232 : enterable Try.prog 232 = true := by kernel_rfl
@[simp] theorem en_233 : enterable Try.prog 233 = true := by kernel_rfl
@[simp] theorem en_234 : enterable Try.prog 234 = true := by kernel_rfl
@[simp] theorem en_235 : enterable Try.prog 235 = true := by kernel_rfl
@[simp] theorem en_236 : enterable Try.prog 236 = true := by kernel_rfl
@[simp] theorem en_237 : enterable Try.prog 237 = true := by kernel_rfl
@[simp] theorem en_238 : enterable Try.prog 238 = true := by kernel_rfl
@[simp] theorem en_239 : enterable Try.prog 239 = true := by kernel_rfl
@[simp] theorem en_240 : enterable Try.prog 240 = true := by kernel_rfl
@[simp] theorem en_241 : enterable Try.prog 241 = true := by kernel_rfl
@[simp] theorem en_242 : enterable Try.prog 242 = true := by kernel_rfl
@[simp] theorem en_243 : enterable Try.prog 243 = true := by kernel_rfl
@[simp] theorem en_244 : enterable Try.prog 244 = true := by kernel_rfl
@[simp] theorem en_245 : enterable Try.prog 245 = true := by kernel_rfl
@[simp] theorem en_246 : enterable Try.prog 246 = true := by kernel_rfl
@[simp] theorem en_247 : enterable Try.prog 247 = true := by kernel_rfl
@[simp] theorem en_248 : enterable Try.prog 248 = true := by kernel_rfl
@[simp] theorem en_249 : enterable Try.prog 249 = true := by kernel_rfl
@[simp] theorem en_250 : enterable Try.prog 250 = true := by kernel_rfl
@[simp] theorem en_251 : enterable Try.prog 251 = true := by kernel_rfl
@[simp] theorem en_252 : enterable Try.prog 252 = true := by kernel_rfl
@[simp] theorem en_253 : enterable Try.prog 253 = true := by kernel_rfl
@[simp] theorem en_254 : enterable Try.prog 254 = true := by kernel_rfl
@[simp] theorem en_255 : enterable Try.prog 255 = true := by kernel_rfl
@[simp] theorem en_256 : enterable Try.prog 256 = true := by kernel_rfl
@[simp] theorem en_257 : enterable Try.prog 257 = true := by kernel_rfl
@[simp] theorem en_258 : enterable Try.prog 258 = true := by kernel_rfl
@[simp] theorem en_259 : enterable Try.prog 259 = true := by kernel_rfl
@[simp] theorem en_260 : enterable Try.prog 260 = true := by kernel_rfl
@[simp] theorem en_261 : enterable Try.prog 261 = true := by kernel_rfl
@[simp] theorem en_262 : enterable Try.prog 262 = true := by kernel_rfl
@[simp] theorem en_263 : enterable Try.prog 263 = true := by kernel_rfl
@[simp] theorem en_264 : enterable Try.prog 264 = true := by kernel_rfl
end Go.Proofs.Ytemlkbcfplkniaa.Am
