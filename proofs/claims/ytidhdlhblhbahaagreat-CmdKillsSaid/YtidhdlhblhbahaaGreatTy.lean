/- Closed facts on the types of the translation. -/
import Derived.Test.YtidhdlhblhbahaaGreatProg
import Derived.Test.YtidhdlhblhbahaaGreatAmA
import Derived.KernelRfl
namespace Go.Proofs.YtidhdlhblhbahaaGreat.Am
open Go Go.Proofs
theorem sz_1 : szOf Tryz.prog 1 = some 1 := by kernel_rfl
theorem agg_1 : aggOf Tryz.prog 1 = some false := by kernel_rfl
theorem zero_1 : zeroOf Tryz.prog 1 = some [.nilFunc] := by kernel_rfl
theorem bytes_1 : bytesOf Tryz.prog 1 = some 8 := by kernel_rfl
attribute [simp] sz_1 agg_1 zero_1 bytes_1
theorem sz_2 : szOf Tryz.prog 2 = some 1 := by kernel_rfl
theorem agg_2 : aggOf Tryz.prog 2 = some false := by kernel_rfl
theorem zero_2 : zeroOf Tryz.prog 2 = some [.int .i64 0] := by kernel_rfl
theorem bytes_2 : bytesOf Tryz.prog 2 = some 8 := by kernel_rfl
theorem int_2 : intOfT Tryz.prog 2 = some .i64 := by kernel_rfl
theorem und_2 : (Tryz.prog.underlying 2).isSome = true := by kernel_rfl
attribute [simp] sz_2 agg_2 zero_2 bytes_2 int_2 und_2
theorem sz_3 : szOf Tryz.prog 3 = some 1 := by kernel_rfl
theorem agg_3 : aggOf Tryz.prog 3 = some false := by kernel_rfl
theorem zero_3 : zeroOf Tryz.prog 3 = some [.int .i64 0] := by kernel_rfl
theorem bytes_3 : bytesOf Tryz.prog 3 = some 8 := by kernel_rfl
theorem int_3 : intOfT Tryz.prog 3 = some .i64 := by kernel_rfl
theorem und_3 : (Tryz.prog.underlying 3).isSome = true := by kernel_rfl
attribute [simp] sz_3 agg_3 zero_3 bytes_3 int_3 und_3
theorem sz_4 : szOf Tryz.prog 4 = some 1 := by kernel_rfl
theorem agg_4 : aggOf Tryz.prog 4 = some false := by kernel_rfl
theorem zero_4 : zeroOf Tryz.prog 4 = some [.bool false] := by kernel_rfl
theorem bytes_4 : bytesOf Tryz.prog 4 = some 1 := by kernel_rfl
theorem bool_4 : isBool Tryz.prog 4 = true := by kernel_rfl
attribute [simp] sz_4 agg_4 zero_4 bytes_4 bool_4
theorem sz_5 : szOf Tryz.prog 5 = some 1 := by kernel_rfl
theorem agg_5 : aggOf Tryz.prog 5 = some false := by kernel_rfl
theorem zero_5 : zeroOf Tryz.prog 5 = some [.int .u8 0] := by kernel_rfl
theorem bytes_5 : bytesOf Tryz.prog 5 = some 1 := by kernel_rfl
theorem int_5 : intOfT Tryz.prog 5 = some .u8 := by kernel_rfl
theorem und_5 : (Tryz.prog.underlying 5).isSome = true := by kernel_rfl
attribute [simp] sz_5 agg_5 zero_5 bytes_5 int_5 und_5
theorem sz_6 : szOf Tryz.prog 6 = some 1 := by kernel_rfl
theorem agg_6 : aggOf Tryz.prog 6 = some false := by kernel_rfl
theorem zero_6 : zeroOf Tryz.prog 6 = some [.int .u8 0] := by kernel_rfl
theorem bytes_6 : bytesOf Tryz.prog 6 = some 1 := by kernel_rfl
theorem int_6 : intOfT Tryz.prog 6 = some .u8 := by kernel_rfl
theorem und_6 : (Tryz.prog.underlying 6).isSome = true := by kernel_rfl
attribute [simp] sz_6 agg_6 zero_6 bytes_6 int_6 und_6
theorem sz_7 : szOf Tryz.prog 7 = some 4 := by kernel_rfl
theorem agg_7 : aggOf Tryz.prog 7 = some true := by kernel_rfl
theorem zero_7 : zeroOf Tryz.prog 7 = some [.int .i64 0, .int .i64 0, .bool false, .int .u8 0] := by kernel_rfl
theorem bytes_7 : bytesOf Tryz.prog 7 = some 24 := by kernel_rfl
theorem field_7x0 : fieldOf Tryz.prog 7 0 = some (2, 0) := by kernel_rfl
theorem field_7x1 : fieldOf Tryz.prog 7 1 = some (3, 1) := by kernel_rfl
theorem field_7x2 : fieldOf Tryz.prog 7 2 = some (4, 2) := by kernel_rfl
theorem field_7x3 : fieldOf Tryz.prog 7 3 = some (6, 3) := by kernel_rfl
theorem places_7 : placesOf Tryz.prog 7 = some [(0, 1), (1, 1), (2, 1), (3, 1)] := by kernel_rfl
attribute [simp] sz_7 agg_7 zero_7 bytes_7 field_7x0 field_7x1 field_7x2 field_7x3 places_7
theorem sz_8 : szOf Tryz.prog 8 = some 4 := by kernel_rfl
theorem agg_8 : aggOf Tryz.prog 8 = some true := by kernel_rfl
theorem zero_8 : zeroOf Tryz.prog 8 = some [.int .i64 0, .int .i64 0, .bool false, .int .u8 0] := by kernel_rfl
theorem bytes_8 : bytesOf Tryz.prog 8 = some 24 := by kernel_rfl
theorem field_8x0 : fieldOf Tryz.prog 8 0 = some (2, 0) := by kernel_rfl
theorem field_8x1 : fieldOf Tryz.prog 8 1 = some (3, 1) := by kernel_rfl
theorem field_8x2 : fieldOf Tryz.prog 8 2 = some (4, 2) := by kernel_rfl
theorem field_8x3 : fieldOf Tryz.prog 8 3 = some (6, 3) := by kernel_rfl
theorem places_8 : placesOf Tryz.prog 8 = some [(0, 1), (1, 1), (2, 1), (3, 1)] := by kernel_rfl
attribute [simp] sz_8 agg_8 zero_8 bytes_8 field_8x0 field_8x1 field_8x2 field_8x3 places_8
theorem sz_9 : szOf Tryz.prog 9 = some 1 := by kernel_rfl
theorem agg_9 : aggOf Tryz.prog 9 = some false := by kernel_rfl
theorem zero_9 : zeroOf Tryz.prog 9 = some [.string ⟨#[]⟩] := by kernel_rfl
theorem bytes_9 : bytesOf Tryz.prog 9 = some 16 := by kernel_rfl
theorem str_9 : isStr Tryz.prog 9 = true := by kernel_rfl
attribute [simp] sz_9 agg_9 zero_9 bytes_9 str_9
theorem sz_10 : szOf Tryz.prog 10 = some 1 := by kernel_rfl
theorem agg_10 : aggOf Tryz.prog 10 = some false := by kernel_rfl
theorem zero_10 : zeroOf Tryz.prog 10 = some [.string ⟨#[]⟩] := by kernel_rfl
theorem bytes_10 : bytesOf Tryz.prog 10 = some 16 := by kernel_rfl
theorem str_10 : isStr Tryz.prog 10 = true := by kernel_rfl
attribute [simp] sz_10 agg_10 zero_10 bytes_10 str_10
theorem sz_11 : szOf Tryz.prog 11 = some 1 := by kernel_rfl
theorem agg_11 : aggOf Tryz.prog 11 = some false := by kernel_rfl
theorem zero_11 : zeroOf Tryz.prog 11 = some [.string ⟨#[]⟩] := by kernel_rfl
theorem bytes_11 : bytesOf Tryz.prog 11 = some 16 := by kernel_rfl
theorem str_11 : isStr Tryz.prog 11 = true := by kernel_rfl
attribute [simp] sz_11 agg_11 zero_11 bytes_11 str_11
theorem sz_12 : szOf Tryz.prog 12 = some 1 := by kernel_rfl
theorem agg_12 : aggOf Tryz.prog 12 = some false := by kernel_rfl
theorem zero_12 : zeroOf Tryz.prog 12 = some [.int .u64 0] := by kernel_rfl
theorem bytes_12 : bytesOf Tryz.prog 12 = some 8 := by kernel_rfl
theorem int_12 : intOfT Tryz.prog 12 = some .u64 := by kernel_rfl
theorem und_12 : (Tryz.prog.underlying 12).isSome = true := by kernel_rfl
attribute [simp] sz_12 agg_12 zero_12 bytes_12 int_12 und_12
theorem sz_13 : szOf Tryz.prog 13 = some 2 := by kernel_rfl
theorem agg_13 : aggOf Tryz.prog 13 = some true := by kernel_rfl
theorem zero_13 : zeroOf Tryz.prog 13 = some [.string ⟨#[]⟩, .int .u64 0] := by kernel_rfl
theorem bytes_13 : bytesOf Tryz.prog 13 = some 24 := by kernel_rfl
theorem field_13x0 : fieldOf Tryz.prog 13 0 = some (9, 0) := by kernel_rfl
theorem field_13x1 : fieldOf Tryz.prog 13 1 = some (12, 1) := by kernel_rfl
theorem places_13 : placesOf Tryz.prog 13 = some [(0, 1), (1, 1)] := by kernel_rfl
attribute [simp] sz_13 agg_13 zero_13 bytes_13 field_13x0 field_13x1 places_13
theorem sz_14 : szOf Tryz.prog 14 = some 2 := by kernel_rfl
theorem agg_14 : aggOf Tryz.prog 14 = some true := by kernel_rfl
theorem zero_14 : zeroOf Tryz.prog 14 = some [.string ⟨#[]⟩, .int .u64 0] := by kernel_rfl
theorem bytes_14 : bytesOf Tryz.prog 14 = some 24 := by kernel_rfl
theorem field_14x0 : fieldOf Tryz.prog 14 0 = some (9, 0) := by kernel_rfl
theorem field_14x1 : fieldOf Tryz.prog 14 1 = some (12, 1) := by kernel_rfl
theorem places_14 : placesOf Tryz.prog 14 = some [(0, 1), (1, 1)] := by kernel_rfl
attribute [simp] sz_14 agg_14 zero_14 bytes_14 field_14x0 field_14x1 places_14
theorem sz_15 : szOf Tryz.prog 15 = some 1 := by kernel_rfl
theorem agg_15 : aggOf Tryz.prog 15 = some false := by kernel_rfl
theorem zero_15 : zeroOf Tryz.prog 15 = some [.pointer none] := by kernel_rfl
theorem bytes_15 : bytesOf Tryz.prog 15 = some 8 := by kernel_rfl
theorem ptr_15 : isPtr Tryz.prog 15 = true := by kernel_rfl
attribute [simp] sz_15 agg_15 zero_15 bytes_15 ptr_15
theorem sz_16 : szOf Tryz.prog 16 = some 1 := by kernel_rfl
theorem agg_16 : aggOf Tryz.prog 16 = some false := by kernel_rfl
theorem zero_16 : zeroOf Tryz.prog 16 = some [.pointer none] := by kernel_rfl
theorem bytes_16 : bytesOf Tryz.prog 16 = some 8 := by kernel_rfl
theorem ptr_16 : isPtr Tryz.prog 16 = true := by kernel_rfl
attribute [simp] sz_16 agg_16 zero_16 bytes_16 ptr_16
theorem sz_17 : szOf Tryz.prog 17 = some 1 := by kernel_rfl
theorem agg_17 : aggOf Tryz.prog 17 = some false := by kernel_rfl
theorem zero_17 : zeroOf Tryz.prog 17 = some [.pointer none] := by kernel_rfl
theorem bytes_17 : bytesOf Tryz.prog 17 = some 8 := by kernel_rfl
theorem ptr_17 : isPtr Tryz.prog 17 = true := by kernel_rfl
attribute [simp] sz_17 agg_17 zero_17 bytes_17 ptr_17
theorem sz_18 : szOf Tryz.prog 18 = some 1 := by kernel_rfl
theorem agg_18 : aggOf Tryz.prog 18 = some true := by kernel_rfl
theorem zero_18 : zeroOf Tryz.prog 18 = some [.pointer none] := by kernel_rfl
theorem bytes_18 : bytesOf Tryz.prog 18 = some 8 := by kernel_rfl
theorem field_18x0 : fieldOf Tryz.prog 18 0 = some (17, 0) := by kernel_rfl
theorem places_18 : placesOf Tryz.prog 18 = some [(0, 1)] := by kernel_rfl
attribute [simp] sz_18 agg_18 zero_18 bytes_18 field_18x0 places_18
theorem sz_19 : szOf Tryz.prog 19 = some 1 := by kernel_rfl
theorem agg_19 : aggOf Tryz.prog 19 = some true := by kernel_rfl
theorem zero_19 : zeroOf Tryz.prog 19 = some [.pointer none] := by kernel_rfl
theorem bytes_19 : bytesOf Tryz.prog 19 = some 8 := by kernel_rfl
theorem field_19x0 : fieldOf Tryz.prog 19 0 = some (17, 0) := by kernel_rfl
theorem places_19 : placesOf Tryz.prog 19 = some [(0, 1)] := by kernel_rfl
attribute [simp] sz_19 agg_19 zero_19 bytes_19 field_19x0 places_19
theorem sz_20 : szOf Tryz.prog 20 = some 1 := by kernel_rfl
theorem agg_20 : aggOf Tryz.prog 20 = some false := by kernel_rfl
attribute [simp] sz_20 agg_20
theorem sz_21 : szOf Tryz.prog 21 = some 1 := by kernel_rfl
theorem agg_21 : aggOf Tryz.prog 21 = some false := by kernel_rfl
theorem zero_21 : zeroOf Tryz.prog 21 = some [.int .i32 0] := by kernel_rfl
theorem bytes_21 : bytesOf Tryz.prog 21 = some 4 := by kernel_rfl
theorem int_21 : intOfT Tryz.prog 21 = some .i32 := by kernel_rfl
theorem und_21 : (Tryz.prog.underlying 21).isSome = true := by kernel_rfl
attribute [simp] sz_21 agg_21 zero_21 bytes_21 int_21 und_21
theorem sz_22 : szOf Tryz.prog 22 = some 1 := by kernel_rfl
theorem agg_22 : aggOf Tryz.prog 22 = some false := by kernel_rfl
theorem zero_22 : zeroOf Tryz.prog 22 = some [.slice none 0 0] := by kernel_rfl
theorem bytes_22 : bytesOf Tryz.prog 22 = some 24 := by kernel_rfl
theorem elem_22 : elemOf Tryz.prog 22 = some 3 := by kernel_rfl
attribute [simp] sz_22 agg_22 zero_22 bytes_22 elem_22
theorem sz_23 : szOf Tryz.prog 23 = some 1 := by kernel_rfl
theorem agg_23 : aggOf Tryz.prog 23 = some false := by kernel_rfl
theorem zero_23 : zeroOf Tryz.prog 23 = some [.slice none 0 0] := by kernel_rfl
theorem bytes_23 : bytesOf Tryz.prog 23 = some 24 := by kernel_rfl
theorem elem_23 : elemOf Tryz.prog 23 = some 124 := by kernel_rfl
attribute [simp] sz_23 agg_23 zero_23 bytes_23 elem_23
theorem sz_24 : szOf Tryz.prog 24 = some 1 := by kernel_rfl
theorem agg_24 : aggOf Tryz.prog 24 = some false := by kernel_rfl
theorem zero_24 : zeroOf Tryz.prog 24 = some [.slice none 0 0] := by kernel_rfl
theorem bytes_24 : bytesOf Tryz.prog 24 = some 24 := by kernel_rfl
theorem elem_24 : elemOf Tryz.prog 24 = some 55 := by kernel_rfl
attribute [simp] sz_24 agg_24 zero_24 bytes_24 elem_24
theorem sz_25 : szOf Tryz.prog 25 = some 3 := by kernel_rfl
theorem agg_25 : aggOf Tryz.prog 25 = some true := by kernel_rfl
theorem zero_25 : zeroOf Tryz.prog 25 = some [.slice none 0 0, .slice none 0 0, .slice none 0 0] := by kernel_rfl
theorem bytes_25 : bytesOf Tryz.prog 25 = some 72 := by kernel_rfl
theorem field_25x0 : fieldOf Tryz.prog 25 0 = some (23, 0) := by kernel_rfl
theorem field_25x1 : fieldOf Tryz.prog 25 1 = some (22, 1) := by kernel_rfl
theorem field_25x2 : fieldOf Tryz.prog 25 2 = some (24, 2) := by kernel_rfl
theorem places_25 : placesOf Tryz.prog 25 = some [(0, 1), (1, 1), (2, 1)] := by kernel_rfl
attribute [simp] sz_25 agg_25 zero_25 bytes_25 field_25x0 field_25x1 field_25x2 places_25
theorem sz_26 : szOf Tryz.prog 26 = some 3 := by kernel_rfl
theorem agg_26 : aggOf Tryz.prog 26 = some true := by kernel_rfl
theorem zero_26 : zeroOf Tryz.prog 26 = some [.slice none 0 0, .slice none 0 0, .slice none 0 0] := by kernel_rfl
theorem bytes_26 : bytesOf Tryz.prog 26 = some 72 := by kernel_rfl
theorem field_26x0 : fieldOf Tryz.prog 26 0 = some (23, 0) := by kernel_rfl
theorem field_26x1 : fieldOf Tryz.prog 26 1 = some (22, 1) := by kernel_rfl
theorem field_26x2 : fieldOf Tryz.prog 26 2 = some (24, 2) := by kernel_rfl
theorem places_26 : placesOf Tryz.prog 26 = some [(0, 1), (1, 1), (2, 1)] := by kernel_rfl
attribute [simp] sz_26 agg_26 zero_26 bytes_26 field_26x0 field_26x1 field_26x2 places_26
theorem sz_27 : szOf Tryz.prog 27 = some 1 := by kernel_rfl
theorem agg_27 : aggOf Tryz.prog 27 = some false := by kernel_rfl
theorem zero_27 : zeroOf Tryz.prog 27 = some [.nilFunc] := by kernel_rfl
theorem bytes_27 : bytesOf Tryz.prog 27 = some 8 := by kernel_rfl
attribute [simp] sz_27 agg_27 zero_27 bytes_27
theorem sz_28 : szOf Tryz.prog 28 = some 1 := by kernel_rfl
theorem agg_28 : aggOf Tryz.prog 28 = some false := by kernel_rfl
theorem zero_28 : zeroOf Tryz.prog 28 = some [.nilFunc] := by kernel_rfl
theorem bytes_28 : bytesOf Tryz.prog 28 = some 8 := by kernel_rfl
attribute [simp] sz_28 agg_28 zero_28 bytes_28
theorem sz_29 : szOf Tryz.prog 29 = some 1 := by kernel_rfl
theorem agg_29 : aggOf Tryz.prog 29 = some false := by kernel_rfl
theorem zero_29 : zeroOf Tryz.prog 29 = some [.nilFunc] := by kernel_rfl
theorem bytes_29 : bytesOf Tryz.prog 29 = some 8 := by kernel_rfl
attribute [simp] sz_29 agg_29 zero_29 bytes_29
theorem sz_30 : szOf Tryz.prog 30 = some 1 := by kernel_rfl
theorem agg_30 : aggOf Tryz.prog 30 = some false := by kernel_rfl
theorem zero_30 : zeroOf Tryz.prog 30 = some [.nilFunc] := by kernel_rfl
theorem bytes_30 : bytesOf Tryz.prog 30 = some 8 := by kernel_rfl
attribute [simp] sz_30 agg_30 zero_30 bytes_30
theorem sz_31 : szOf Tryz.prog 31 = some 2 := by kernel_rfl
theorem agg_31 : aggOf Tryz.prog 31 = some true := by kernel_rfl
theorem zero_31 : zeroOf Tryz.prog 31 = some [.int .i64 0, .int .i64 0] := by kernel_rfl
theorem bytes_31 : bytesOf Tryz.prog 31 = some 16 := by kernel_rfl
theorem eqf_31 : eqfOf Tryz.prog 31 = some [(3, 0), (3, 1)] := by kernel_rfl
theorem ng_31 : noGuard Tryz.prog 31 = true := by kernel_rfl
theorem field_31x0 : fieldOf Tryz.prog 31 0 = some (3, 0) := by kernel_rfl
theorem field_31x1 : fieldOf Tryz.prog 31 1 = some (3, 1) := by kernel_rfl
theorem places_31 : placesOf Tryz.prog 31 = some [(0, 1), (1, 1)] := by kernel_rfl
attribute [simp] sz_31 agg_31 zero_31 bytes_31 eqf_31 ng_31 field_31x0 field_31x1 places_31
theorem sz_32 : szOf Tryz.prog 32 = some 2 := by kernel_rfl
theorem agg_32 : aggOf Tryz.prog 32 = some true := by kernel_rfl
theorem zero_32 : zeroOf Tryz.prog 32 = some [.int .i64 0, .int .i64 0] := by kernel_rfl
theorem bytes_32 : bytesOf Tryz.prog 32 = some 16 := by kernel_rfl
theorem eqf_32 : eqfOf Tryz.prog 32 = some [(3, 0), (3, 1)] := by kernel_rfl
theorem ng_32 : noGuard Tryz.prog 32 = true := by kernel_rfl
theorem field_32x0 : fieldOf Tryz.prog 32 0 = some (3, 0) := by kernel_rfl
theorem field_32x1 : fieldOf Tryz.prog 32 1 = some (3, 1) := by kernel_rfl
theorem places_32 : placesOf Tryz.prog 32 = some [(0, 1), (1, 1)] := by kernel_rfl
attribute [simp] sz_32 agg_32 zero_32 bytes_32 eqf_32 ng_32 field_32x0 field_32x1 places_32
theorem sz_33 : szOf Tryz.prog 33 = some 1 := by kernel_rfl
theorem agg_33 : aggOf Tryz.prog 33 = some false := by kernel_rfl
theorem zero_33 : zeroOf Tryz.prog 33 = some [.int .i64 0] := by kernel_rfl
theorem bytes_33 : bytesOf Tryz.prog 33 = some 8 := by kernel_rfl
theorem int_33 : intOfT Tryz.prog 33 = some .i64 := by kernel_rfl
theorem und_33 : (Tryz.prog.underlying 33).isSome = true := by kernel_rfl
attribute [simp] sz_33 agg_33 zero_33 bytes_33 int_33 und_33
theorem sz_35 : szOf Tryz.prog 35 = some 1 := by kernel_rfl
theorem agg_35 : aggOf Tryz.prog 35 = some false := by kernel_rfl
theorem zero_35 : zeroOf Tryz.prog 35 = some [.nilFunc] := by kernel_rfl
theorem bytes_35 : bytesOf Tryz.prog 35 = some 8 := by kernel_rfl
attribute [simp] sz_35 agg_35 zero_35 bytes_35
theorem sz_37 : szOf Tryz.prog 37 = some 1 := by kernel_rfl
theorem agg_37 : aggOf Tryz.prog 37 = some false := by kernel_rfl
theorem zero_37 : zeroOf Tryz.prog 37 = some [.nilFunc] := by kernel_rfl
theorem bytes_37 : bytesOf Tryz.prog 37 = some 8 := by kernel_rfl
attribute [simp] sz_37 agg_37 zero_37 bytes_37
theorem sz_39 : szOf Tryz.prog 39 = some 1 := by kernel_rfl
theorem agg_39 : aggOf Tryz.prog 39 = some false := by kernel_rfl
theorem zero_39 : zeroOf Tryz.prog 39 = some [.nilFunc] := by kernel_rfl
theorem bytes_39 : bytesOf Tryz.prog 39 = some 8 := by kernel_rfl
attribute [simp] sz_39 agg_39 zero_39 bytes_39
theorem sz_40 : szOf Tryz.prog 40 = some 1 := by kernel_rfl
theorem agg_40 : aggOf Tryz.prog 40 = some false := by kernel_rfl
theorem zero_40 : zeroOf Tryz.prog 40 = some [.nilFunc] := by kernel_rfl
theorem bytes_40 : bytesOf Tryz.prog 40 = some 8 := by kernel_rfl
attribute [simp] sz_40 agg_40 zero_40 bytes_40
theorem sz_41 : szOf Tryz.prog 41 = some 2 := by kernel_rfl
theorem agg_41 : aggOf Tryz.prog 41 = some true := by kernel_rfl
theorem zero_41 : zeroOf Tryz.prog 41 = some [.int .i64 0, .slice none 0 0] := by kernel_rfl
theorem bytes_41 : bytesOf Tryz.prog 41 = some 32 := by kernel_rfl
theorem field_41x0 : fieldOf Tryz.prog 41 0 = some (3, 0) := by kernel_rfl
theorem field_41x1 : fieldOf Tryz.prog 41 1 = some (22, 1) := by kernel_rfl
theorem places_41 : placesOf Tryz.prog 41 = some [(0, 1), (1, 1)] := by kernel_rfl
attribute [simp] sz_41 agg_41 zero_41 bytes_41 field_41x0 field_41x1 places_41
theorem sz_42 : szOf Tryz.prog 42 = some 2 := by kernel_rfl
theorem agg_42 : aggOf Tryz.prog 42 = some true := by kernel_rfl
theorem zero_42 : zeroOf Tryz.prog 42 = some [.int .i64 0, .slice none 0 0] := by kernel_rfl
theorem bytes_42 : bytesOf Tryz.prog 42 = some 32 := by kernel_rfl
theorem field_42x0 : fieldOf Tryz.prog 42 0 = some (3, 0) := by kernel_rfl
theorem field_42x1 : fieldOf Tryz.prog 42 1 = some (22, 1) := by kernel_rfl
theorem places_42 : placesOf Tryz.prog 42 = some [(0, 1), (1, 1)] := by kernel_rfl
attribute [simp] sz_42 agg_42 zero_42 bytes_42 field_42x0 field_42x1 places_42
theorem sz_43 : szOf Tryz.prog 43 = some 1 := by kernel_rfl
theorem agg_43 : aggOf Tryz.prog 43 = some false := by kernel_rfl
theorem zero_43 : zeroOf Tryz.prog 43 = some [.nilFunc] := by kernel_rfl
theorem bytes_43 : bytesOf Tryz.prog 43 = some 8 := by kernel_rfl
attribute [simp] sz_43 agg_43 zero_43 bytes_43
theorem sz_44 : szOf Tryz.prog 44 = some 1 := by kernel_rfl
theorem agg_44 : aggOf Tryz.prog 44 = some false := by kernel_rfl
theorem zero_44 : zeroOf Tryz.prog 44 = some [.nilFunc] := by kernel_rfl
theorem bytes_44 : bytesOf Tryz.prog 44 = some 8 := by kernel_rfl
attribute [simp] sz_44 agg_44 zero_44 bytes_44
theorem sz_45 : szOf Tryz.prog 45 = some 1 := by kernel_rfl
theorem agg_45 : aggOf Tryz.prog 45 = some false := by kernel_rfl
theorem zero_45 : zeroOf Tryz.prog 45 = some [.pointer none] := by kernel_rfl
theorem bytes_45 : bytesOf Tryz.prog 45 = some 8 := by kernel_rfl
theorem ptr_45 : isPtr Tryz.prog 45 = true := by kernel_rfl
attribute [simp] sz_45 agg_45 zero_45 bytes_45 ptr_45
theorem sz_47 : szOf Tryz.prog 47 = some 1 := by kernel_rfl
theorem agg_47 : aggOf Tryz.prog 47 = some false := by kernel_rfl
theorem zero_47 : zeroOf Tryz.prog 47 = some [.nilFunc] := by kernel_rfl
theorem bytes_47 : bytesOf Tryz.prog 47 = some 8 := by kernel_rfl
attribute [simp] sz_47 agg_47 zero_47 bytes_47
theorem sz_48 : szOf Tryz.prog 48 = some 1 := by kernel_rfl
theorem agg_48 : aggOf Tryz.prog 48 = some false := by kernel_rfl
theorem zero_48 : zeroOf Tryz.prog 48 = some [.nilFunc] := by kernel_rfl
theorem bytes_48 : bytesOf Tryz.prog 48 = some 8 := by kernel_rfl
attribute [simp] sz_48 agg_48 zero_48 bytes_48
theorem sz_49 : szOf Tryz.prog 49 = some 1 := by kernel_rfl
theorem agg_49 : aggOf Tryz.prog 49 = some false := by kernel_rfl
theorem zero_49 : zeroOf Tryz.prog 49 = some [.nilFunc] := by kernel_rfl
theorem bytes_49 : bytesOf Tryz.prog 49 = some 8 := by kernel_rfl
attribute [simp] sz_49 agg_49 zero_49 bytes_49
theorem sz_50 : szOf Tryz.prog 50 = some 1 := by kernel_rfl
theorem agg_50 : aggOf Tryz.prog 50 = some false := by kernel_rfl
theorem zero_50 : zeroOf Tryz.prog 50 = some [.nilFunc] := by kernel_rfl
theorem bytes_50 : bytesOf Tryz.prog 50 = some 8 := by kernel_rfl
attribute [simp] sz_50 agg_50 zero_50 bytes_50
theorem sz_51 : szOf Tryz.prog 51 = some 1 := by kernel_rfl
theorem agg_51 : aggOf Tryz.prog 51 = some false := by kernel_rfl
theorem zero_51 : zeroOf Tryz.prog 51 = some [.nilFunc] := by kernel_rfl
theorem bytes_51 : bytesOf Tryz.prog 51 = some 8 := by kernel_rfl
attribute [simp] sz_51 agg_51 zero_51 bytes_51
theorem sz_52 : szOf Tryz.prog 52 = some 1 := by kernel_rfl
theorem agg_52 : aggOf Tryz.prog 52 = some false := by kernel_rfl
theorem zero_52 : zeroOf Tryz.prog 52 = some [.slice none 0 0] := by kernel_rfl
theorem bytes_52 : bytesOf Tryz.prog 52 = some 24 := by kernel_rfl
theorem elem_52 : elemOf Tryz.prog 52 = some 57 := by kernel_rfl
attribute [simp] sz_52 agg_52 zero_52 bytes_52 elem_52
theorem sz_53 : szOf Tryz.prog 53 = some 1 := by kernel_rfl
theorem agg_53 : aggOf Tryz.prog 53 = some false := by kernel_rfl
theorem zero_53 : zeroOf Tryz.prog 53 = some [.slice none 0 0] := by kernel_rfl
theorem bytes_53 : bytesOf Tryz.prog 53 = some 24 := by kernel_rfl
theorem elem_53 : elemOf Tryz.prog 53 = some 42 := by kernel_rfl
attribute [simp] sz_53 agg_53 zero_53 bytes_53 elem_53
theorem sz_54 : szOf Tryz.prog 54 = some 3 := by kernel_rfl
theorem agg_54 : aggOf Tryz.prog 54 = some true := by kernel_rfl
theorem zero_54 : zeroOf Tryz.prog 54 = some [.int .i64 0, .int .i64 0, .slice none 0 0] := by kernel_rfl
theorem bytes_54 : bytesOf Tryz.prog 54 = some 40 := by kernel_rfl
theorem field_54x0 : fieldOf Tryz.prog 54 0 = some (32, 0) := by kernel_rfl
theorem field_54x1 : fieldOf Tryz.prog 54 1 = some (53, 2) := by kernel_rfl
theorem places_54 : placesOf Tryz.prog 54 = some [(0, 2), (2, 1)] := by kernel_rfl
attribute [simp] sz_54 agg_54 zero_54 bytes_54 field_54x0 field_54x1 places_54
theorem sz_55 : szOf Tryz.prog 55 = some 3 := by kernel_rfl
theorem agg_55 : aggOf Tryz.prog 55 = some true := by kernel_rfl
theorem zero_55 : zeroOf Tryz.prog 55 = some [.int .i64 0, .int .i64 0, .slice none 0 0] := by kernel_rfl
theorem bytes_55 : bytesOf Tryz.prog 55 = some 40 := by kernel_rfl
theorem field_55x0 : fieldOf Tryz.prog 55 0 = some (32, 0) := by kernel_rfl
theorem field_55x1 : fieldOf Tryz.prog 55 1 = some (53, 2) := by kernel_rfl
theorem places_55 : placesOf Tryz.prog 55 = some [(0, 2), (2, 1)] := by kernel_rfl
attribute [simp] sz_55 agg_55 zero_55 bytes_55 field_55x0 field_55x1 places_55
theorem sz_56 : szOf Tryz.prog 56 = some 5 := by kernel_rfl
theorem agg_56 : aggOf Tryz.prog 56 = some true := by kernel_rfl
theorem zero_56 : zeroOf Tryz.prog 56 = some [.int .i64 0, .int .i64 0, .int .i64 0, .int .i64 0, .slice none 0 0] := by kernel_rfl
theorem bytes_56 : bytesOf Tryz.prog 56 = some 56 := by kernel_rfl
theorem field_56x0 : fieldOf Tryz.prog 56 0 = some (3, 0) := by kernel_rfl
theorem field_56x1 : fieldOf Tryz.prog 56 1 = some (32, 1) := by kernel_rfl
theorem field_56x2 : fieldOf Tryz.prog 56 2 = some (3, 3) := by kernel_rfl
theorem field_56x3 : fieldOf Tryz.prog 56 3 = some (53, 4) := by kernel_rfl
theorem places_56 : placesOf Tryz.prog 56 = some [(0, 1), (1, 2), (3, 1), (4, 1)] := by kernel_rfl
attribute [simp] sz_56 agg_56 zero_56 bytes_56 field_56x0 field_56x1 field_56x2 field_56x3 places_56
theorem sz_57 : szOf Tryz.prog 57 = some 5 := by kernel_rfl
theorem agg_57 : aggOf Tryz.prog 57 = some true := by kernel_rfl
theorem zero_57 : zeroOf Tryz.prog 57 = some [.int .i64 0, .int .i64 0, .int .i64 0, .int .i64 0, .slice none 0 0] := by kernel_rfl
theorem bytes_57 : bytesOf Tryz.prog 57 = some 56 := by kernel_rfl
theorem field_57x0 : fieldOf Tryz.prog 57 0 = some (3, 0) := by kernel_rfl
theorem field_57x1 : fieldOf Tryz.prog 57 1 = some (32, 1) := by kernel_rfl
theorem field_57x2 : fieldOf Tryz.prog 57 2 = some (3, 3) := by kernel_rfl
theorem field_57x3 : fieldOf Tryz.prog 57 3 = some (53, 4) := by kernel_rfl
theorem places_57 : placesOf Tryz.prog 57 = some [(0, 1), (1, 2), (3, 1), (4, 1)] := by kernel_rfl
attribute [simp] sz_57 agg_57 zero_57 bytes_57 field_57x0 field_57x1 field_57x2 field_57x3 places_57
theorem sz_58 : szOf Tryz.prog 58 = some 1 := by kernel_rfl
theorem agg_58 : aggOf Tryz.prog 58 = some false := by kernel_rfl
theorem zero_58 : zeroOf Tryz.prog 58 = some [.slice none 0 0] := by kernel_rfl
theorem bytes_58 : bytesOf Tryz.prog 58 = some 24 := by kernel_rfl
theorem elem_58 : elemOf Tryz.prog 58 = some 32 := by kernel_rfl
attribute [simp] sz_58 agg_58 zero_58 bytes_58 elem_58
theorem sz_60 : szOf Tryz.prog 60 = some 1 := by kernel_rfl
theorem agg_60 : aggOf Tryz.prog 60 = some false := by kernel_rfl
theorem zero_60 : zeroOf Tryz.prog 60 = some [.nilFunc] := by kernel_rfl
theorem bytes_60 : bytesOf Tryz.prog 60 = some 8 := by kernel_rfl
attribute [simp] sz_60 agg_60 zero_60 bytes_60
theorem sz_61 : szOf Tryz.prog 61 = some 1 := by kernel_rfl
theorem agg_61 : aggOf Tryz.prog 61 = some false := by kernel_rfl
theorem zero_61 : zeroOf Tryz.prog 61 = some [.nilFunc] := by kernel_rfl
theorem bytes_61 : bytesOf Tryz.prog 61 = some 8 := by kernel_rfl
attribute [simp] sz_61 agg_61 zero_61 bytes_61
theorem sz_62 : szOf Tryz.prog 62 = some 1 := by kernel_rfl
theorem agg_62 : aggOf Tryz.prog 62 = some false := by kernel_rfl
theorem zero_62 : zeroOf Tryz.prog 62 = some [.nilFunc] := by kernel_rfl
theorem bytes_62 : bytesOf Tryz.prog 62 = some 8 := by kernel_rfl
attribute [simp] sz_62 agg_62 zero_62 bytes_62
theorem sz_63 : szOf Tryz.prog 63 = some 1 := by kernel_rfl
theorem agg_63 : aggOf Tryz.prog 63 = some false := by kernel_rfl
theorem zero_63 : zeroOf Tryz.prog 63 = some [.nilFunc] := by kernel_rfl
theorem bytes_63 : bytesOf Tryz.prog 63 = some 8 := by kernel_rfl
attribute [simp] sz_63 agg_63 zero_63 bytes_63
theorem sz_65 : szOf Tryz.prog 65 = some 1 := by kernel_rfl
theorem agg_65 : aggOf Tryz.prog 65 = some false := by kernel_rfl
theorem zero_65 : zeroOf Tryz.prog 65 = some [.nilFunc] := by kernel_rfl
theorem bytes_65 : bytesOf Tryz.prog 65 = some 8 := by kernel_rfl
attribute [simp] sz_65 agg_65 zero_65 bytes_65
theorem sz_66 : szOf Tryz.prog 66 = some 1 := by kernel_rfl
theorem agg_66 : aggOf Tryz.prog 66 = some false := by kernel_rfl
theorem zero_66 : zeroOf Tryz.prog 66 = some [.nilFunc] := by kernel_rfl
theorem bytes_66 : bytesOf Tryz.prog 66 = some 8 := by kernel_rfl
attribute [simp] sz_66 agg_66 zero_66 bytes_66
theorem sz_67 : szOf Tryz.prog 67 = some 1 := by kernel_rfl
theorem agg_67 : aggOf Tryz.prog 67 = some false := by kernel_rfl
theorem zero_67 : zeroOf Tryz.prog 67 = some [.nilFunc] := by kernel_rfl
theorem bytes_67 : bytesOf Tryz.prog 67 = some 8 := by kernel_rfl
attribute [simp] sz_67 agg_67 zero_67 bytes_67
theorem sz_68 : szOf Tryz.prog 68 = some 1 := by kernel_rfl
theorem agg_68 : aggOf Tryz.prog 68 = some false := by kernel_rfl
theorem zero_68 : zeroOf Tryz.prog 68 = some [.nilFunc] := by kernel_rfl
theorem bytes_68 : bytesOf Tryz.prog 68 = some 8 := by kernel_rfl
attribute [simp] sz_68 agg_68 zero_68 bytes_68
theorem sz_69 : szOf Tryz.prog 69 = some 1 := by kernel_rfl
theorem agg_69 : aggOf Tryz.prog 69 = some false := by kernel_rfl
theorem zero_69 : zeroOf Tryz.prog 69 = some [.slice none 0 0] := by kernel_rfl
theorem bytes_69 : bytesOf Tryz.prog 69 = some 24 := by kernel_rfl
theorem elem_69 : elemOf Tryz.prog 69 = some 52 := by kernel_rfl
attribute [simp] sz_69 agg_69 zero_69 bytes_69 elem_69
theorem sz_70 : szOf Tryz.prog 70 = some 1 := by kernel_rfl
theorem agg_70 : aggOf Tryz.prog 70 = some false := by kernel_rfl
theorem zero_70 : zeroOf Tryz.prog 70 = some [.nilFunc] := by kernel_rfl
theorem bytes_70 : bytesOf Tryz.prog 70 = some 8 := by kernel_rfl
attribute [simp] sz_70 agg_70 zero_70 bytes_70
theorem sz_71 : szOf Tryz.prog 71 = some 1 := by kernel_rfl
theorem agg_71 : aggOf Tryz.prog 71 = some false := by kernel_rfl
theorem zero_71 : zeroOf Tryz.prog 71 = some [.nilFunc] := by kernel_rfl
theorem bytes_71 : bytesOf Tryz.prog 71 = some 8 := by kernel_rfl
attribute [simp] sz_71 agg_71 zero_71 bytes_71
theorem sz_72 : szOf Tryz.prog 72 = some 1 := by kernel_rfl
theorem agg_72 : aggOf Tryz.prog 72 = some false := by kernel_rfl
theorem zero_72 : zeroOf Tryz.prog 72 = some [.nilFunc] := by kernel_rfl
theorem bytes_72 : bytesOf Tryz.prog 72 = some 8 := by kernel_rfl
attribute [simp] sz_72 agg_72 zero_72 bytes_72
theorem sz_73 : szOf Tryz.prog 73 = some 1 := by kernel_rfl
theorem agg_73 : aggOf Tryz.prog 73 = some false := by kernel_rfl
theorem zero_73 : zeroOf Tryz.prog 73 = some [.slice none 0 0] := by kernel_rfl
theorem bytes_73 : bytesOf Tryz.prog 73 = some 24 := by kernel_rfl
theorem elem_73 : elemOf Tryz.prog 73 = some 79 := by kernel_rfl
attribute [simp] sz_73 agg_73 zero_73 bytes_73 elem_73
theorem sz_75 : szOf Tryz.prog 75 = some 1 := by kernel_rfl
theorem agg_75 : aggOf Tryz.prog 75 = some false := by kernel_rfl
theorem zero_75 : zeroOf Tryz.prog 75 = some [.nilFunc] := by kernel_rfl
theorem bytes_75 : bytesOf Tryz.prog 75 = some 8 := by kernel_rfl
attribute [simp] sz_75 agg_75 zero_75 bytes_75
theorem sz_76 : szOf Tryz.prog 76 = some 1 := by kernel_rfl
theorem agg_76 : aggOf Tryz.prog 76 = some false := by kernel_rfl
theorem zero_76 : zeroOf Tryz.prog 76 = some [.nilFunc] := by kernel_rfl
theorem bytes_76 : bytesOf Tryz.prog 76 = some 8 := by kernel_rfl
attribute [simp] sz_76 agg_76 zero_76 bytes_76
theorem sz_77 : szOf Tryz.prog 77 = some 1 := by kernel_rfl
theorem agg_77 : aggOf Tryz.prog 77 = some false := by kernel_rfl
theorem zero_77 : zeroOf Tryz.prog 77 = some [.nilFunc] := by kernel_rfl
theorem bytes_77 : bytesOf Tryz.prog 77 = some 8 := by kernel_rfl
attribute [simp] sz_77 agg_77 zero_77 bytes_77
theorem sz_78 : szOf Tryz.prog 78 = some 3 := by kernel_rfl
theorem agg_78 : aggOf Tryz.prog 78 = some true := by kernel_rfl
theorem zero_78 : zeroOf Tryz.prog 78 = some [.int .i64 0, .int .i64 0, .int .i64 0] := by kernel_rfl
theorem bytes_78 : bytesOf Tryz.prog 78 = some 24 := by kernel_rfl
theorem eqf_78 : eqfOf Tryz.prog 78 = some [(3, 0), (3, 1), (3, 2)] := by kernel_rfl
theorem ng_78 : noGuard Tryz.prog 78 = true := by kernel_rfl
theorem field_78x0 : fieldOf Tryz.prog 78 0 = some (3, 0) := by kernel_rfl
theorem field_78x1 : fieldOf Tryz.prog 78 1 = some (3, 1) := by kernel_rfl
theorem field_78x2 : fieldOf Tryz.prog 78 2 = some (3, 2) := by kernel_rfl
theorem places_78 : placesOf Tryz.prog 78 = some [(0, 1), (1, 1), (2, 1)] := by kernel_rfl
attribute [simp] sz_78 agg_78 zero_78 bytes_78 eqf_78 ng_78 field_78x0 field_78x1 field_78x2 places_78
theorem sz_79 : szOf Tryz.prog 79 = some 3 := by kernel_rfl
theorem agg_79 : aggOf Tryz.prog 79 = some true := by kernel_rfl
theorem zero_79 : zeroOf Tryz.prog 79 = some [.int .i64 0, .int .i64 0, .int .i64 0] := by kernel_rfl
theorem bytes_79 : bytesOf Tryz.prog 79 = some 24 := by kernel_rfl
theorem eqf_79 : eqfOf Tryz.prog 79 = some [(3, 0), (3, 1), (3, 2)] := by kernel_rfl
theorem ng_79 : noGuard Tryz.prog 79 = true := by kernel_rfl
theorem field_79x0 : fieldOf Tryz.prog 79 0 = some (3, 0) := by kernel_rfl
theorem field_79x1 : fieldOf Tryz.prog 79 1 = some (3, 1) := by kernel_rfl
theorem field_79x2 : fieldOf Tryz.prog 79 2 = some (3, 2) := by kernel_rfl
theorem places_79 : placesOf Tryz.prog 79 = some [(0, 1), (1, 1), (2, 1)] := by kernel_rfl
attribute [simp] sz_79 agg_79 zero_79 bytes_79 eqf_79 ng_79 field_79x0 field_79x1 field_79x2 places_79
theorem sz_80 : szOf Tryz.prog 80 = some 1 := by kernel_rfl
theorem agg_80 : aggOf Tryz.prog 80 = some false := by kernel_rfl
theorem zero_80 : zeroOf Tryz.prog 80 = some [.pointer none] := by kernel_rfl
theorem bytes_80 : bytesOf Tryz.prog 80 = some 8 := by kernel_rfl
theorem ptr_80 : isPtr Tryz.prog 80 = true := by kernel_rfl
attribute [simp] sz_80 agg_80 zero_80 bytes_80 ptr_80
theorem sz_81 : szOf Tryz.prog 81 = some 1 := by kernel_rfl
theorem agg_81 : aggOf Tryz.prog 81 = some false := by kernel_rfl
theorem zero_81 : zeroOf Tryz.prog 81 = some [.nilFunc] := by kernel_rfl
theorem bytes_81 : bytesOf Tryz.prog 81 = some 8 := by kernel_rfl
attribute [simp] sz_81 agg_81 zero_81 bytes_81
theorem sz_83 : szOf Tryz.prog 83 = some 1 := by kernel_rfl
theorem agg_83 : aggOf Tryz.prog 83 = some false := by kernel_rfl
theorem zero_83 : zeroOf Tryz.prog 83 = some [.nilFunc] := by kernel_rfl
theorem bytes_83 : bytesOf Tryz.prog 83 = some 8 := by kernel_rfl
attribute [simp] sz_83 agg_83 zero_83 bytes_83
theorem sz_84 : szOf Tryz.prog 84 = some 1 := by kernel_rfl
theorem agg_84 : aggOf Tryz.prog 84 = some false := by kernel_rfl
theorem zero_84 : zeroOf Tryz.prog 84 = some [.nilFunc] := by kernel_rfl
theorem bytes_84 : bytesOf Tryz.prog 84 = some 8 := by kernel_rfl
attribute [simp] sz_84 agg_84 zero_84 bytes_84
theorem sz_85 : szOf Tryz.prog 85 = some 1 := by kernel_rfl
theorem agg_85 : aggOf Tryz.prog 85 = some false := by kernel_rfl
theorem zero_85 : zeroOf Tryz.prog 85 = some [.nilFunc] := by kernel_rfl
theorem bytes_85 : bytesOf Tryz.prog 85 = some 8 := by kernel_rfl
attribute [simp] sz_85 agg_85 zero_85 bytes_85
theorem sz_86 : szOf Tryz.prog 86 = some 1 := by kernel_rfl
theorem agg_86 : aggOf Tryz.prog 86 = some false := by kernel_rfl
theorem zero_86 : zeroOf Tryz.prog 86 = some [.map none] := by kernel_rfl
theorem bytes_86 : bytesOf Tryz.prog 86 = some 8 := by kernel_rfl
attribute [simp] sz_86 agg_86 zero_86 bytes_86
theorem sz_87 : szOf Tryz.prog 87 = some 2 := by kernel_rfl
theorem agg_87 : aggOf Tryz.prog 87 = some true := by kernel_rfl
theorem zero_87 : zeroOf Tryz.prog 87 = some [.int .i64 0, .int .i64 0] := by kernel_rfl
theorem bytes_87 : bytesOf Tryz.prog 87 = some 16 := by kernel_rfl
attribute [simp] sz_87 agg_87 zero_87 bytes_87
theorem sz_89 : szOf Tryz.prog 89 = some 1 := by kernel_rfl
theorem agg_89 : aggOf Tryz.prog 89 = some false := by kernel_rfl
theorem zero_89 : zeroOf Tryz.prog 89 = some [.nilFunc] := by kernel_rfl
theorem bytes_89 : bytesOf Tryz.prog 89 = some 8 := by kernel_rfl
attribute [simp] sz_89 agg_89 zero_89 bytes_89
theorem sz_90 : szOf Tryz.prog 90 = some 1 := by kernel_rfl
theorem agg_90 : aggOf Tryz.prog 90 = some false := by kernel_rfl
theorem zero_90 : zeroOf Tryz.prog 90 = some [.slice none 0 0] := by kernel_rfl
theorem bytes_90 : bytesOf Tryz.prog 90 = some 24 := by kernel_rfl
theorem elem_90 : elemOf Tryz.prog 90 = some 112 := by kernel_rfl
attribute [simp] sz_90 agg_90 zero_90 bytes_90 elem_90
theorem sz_91 : szOf Tryz.prog 91 = some 1 := by kernel_rfl
theorem agg_91 : aggOf Tryz.prog 91 = some false := by kernel_rfl
theorem zero_91 : zeroOf Tryz.prog 91 = some [.nilFunc] := by kernel_rfl
theorem bytes_91 : bytesOf Tryz.prog 91 = some 8 := by kernel_rfl
attribute [simp] sz_91 agg_91 zero_91 bytes_91
theorem sz_92 : szOf Tryz.prog 92 = some 1 := by kernel_rfl
theorem agg_92 : aggOf Tryz.prog 92 = some false := by kernel_rfl
theorem zero_92 : zeroOf Tryz.prog 92 = some [.nilFunc] := by kernel_rfl
theorem bytes_92 : bytesOf Tryz.prog 92 = some 8 := by kernel_rfl
attribute [simp] sz_92 agg_92 zero_92 bytes_92
theorem sz_93 : szOf Tryz.prog 93 = some 1 := by kernel_rfl
theorem agg_93 : aggOf Tryz.prog 93 = some false := by kernel_rfl
theorem zero_93 : zeroOf Tryz.prog 93 = some [.slice none 0 0] := by kernel_rfl
theorem bytes_93 : bytesOf Tryz.prog 93 = some 24 := by kernel_rfl
theorem elem_93 : elemOf Tryz.prog 93 = some 97 := by kernel_rfl
attribute [simp] sz_93 agg_93 zero_93 bytes_93 elem_93
theorem sz_95 : szOf Tryz.prog 95 = some 1 := by kernel_rfl
theorem agg_95 : aggOf Tryz.prog 95 = some false := by kernel_rfl
theorem zero_95 : zeroOf Tryz.prog 95 = some [.nilFunc] := by kernel_rfl
theorem bytes_95 : bytesOf Tryz.prog 95 = some 8 := by kernel_rfl
attribute [simp] sz_95 agg_95 zero_95 bytes_95
theorem sz_96 : szOf Tryz.prog 96 = some 1 := by kernel_rfl
theorem agg_96 : aggOf Tryz.prog 96 = some false := by kernel_rfl
theorem zero_96 : zeroOf Tryz.prog 96 = some [.nilFunc] := by kernel_rfl
theorem bytes_96 : bytesOf Tryz.prog 96 = some 8 := by kernel_rfl
attribute [simp] sz_96 agg_96 zero_96 bytes_96
theorem sz_97 : szOf Tryz.prog 97 = some 1 := by kernel_rfl
theorem agg_97 : aggOf Tryz.prog 97 = some false := by kernel_rfl
theorem zero_97 : zeroOf Tryz.prog 97 = some [.int .u64 0] := by kernel_rfl
theorem bytes_97 : bytesOf Tryz.prog 97 = some 8 := by kernel_rfl
theorem int_97 : intOfT Tryz.prog 97 = some .u64 := by kernel_rfl
theorem und_97 : (Tryz.prog.underlying 97).isSome = true := by kernel_rfl
attribute [simp] sz_97 agg_97 zero_97 bytes_97 int_97 und_97
theorem sz_98 : szOf Tryz.prog 98 = some 1 := by kernel_rfl
theorem agg_98 : aggOf Tryz.prog 98 = some false := by kernel_rfl
theorem zero_98 : zeroOf Tryz.prog 98 = some [.nilFunc] := by kernel_rfl
theorem bytes_98 : bytesOf Tryz.prog 98 = some 8 := by kernel_rfl
attribute [simp] sz_98 agg_98 zero_98 bytes_98
theorem sz_99 : szOf Tryz.prog 99 = some 1 := by kernel_rfl
theorem agg_99 : aggOf Tryz.prog 99 = some false := by kernel_rfl
theorem zero_99 : zeroOf Tryz.prog 99 = some [.nilFunc] := by kernel_rfl
theorem bytes_99 : bytesOf Tryz.prog 99 = some 8 := by kernel_rfl
attribute [simp] sz_99 agg_99 zero_99 bytes_99
theorem sz_100 : szOf Tryz.prog 100 = some 1 := by kernel_rfl
theorem agg_100 : aggOf Tryz.prog 100 = some false := by kernel_rfl
theorem zero_100 : zeroOf Tryz.prog 100 = some [.slice none 0 0] := by kernel_rfl
theorem bytes_100 : bytesOf Tryz.prog 100 = some 24 := by kernel_rfl
theorem elem_100 : elemOf Tryz.prog 100 = some 106 := by kernel_rfl
attribute [simp] sz_100 agg_100 zero_100 bytes_100 elem_100
theorem sz_102 : szOf Tryz.prog 102 = some 1 := by kernel_rfl
theorem agg_102 : aggOf Tryz.prog 102 = some false := by kernel_rfl
theorem zero_102 : zeroOf Tryz.prog 102 = some [.nilFunc] := by kernel_rfl
theorem bytes_102 : bytesOf Tryz.prog 102 = some 8 := by kernel_rfl
attribute [simp] sz_102 agg_102 zero_102 bytes_102
theorem sz_103 : szOf Tryz.prog 103 = some 1 := by kernel_rfl
theorem agg_103 : aggOf Tryz.prog 103 = some false := by kernel_rfl
theorem zero_103 : zeroOf Tryz.prog 103 = some [.nilFunc] := by kernel_rfl
theorem bytes_103 : bytesOf Tryz.prog 103 = some 8 := by kernel_rfl
attribute [simp] sz_103 agg_103 zero_103 bytes_103
theorem sz_104 : szOf Tryz.prog 104 = some 1 := by kernel_rfl
theorem agg_104 : aggOf Tryz.prog 104 = some false := by kernel_rfl
theorem zero_104 : zeroOf Tryz.prog 104 = some [.nilFunc] := by kernel_rfl
theorem bytes_104 : bytesOf Tryz.prog 104 = some 8 := by kernel_rfl
attribute [simp] sz_104 agg_104 zero_104 bytes_104
theorem sz_105 : szOf Tryz.prog 105 = some 4 := by kernel_rfl
theorem agg_105 : aggOf Tryz.prog 105 = some true := by kernel_rfl
theorem zero_105 : zeroOf Tryz.prog 105 = some [.int .i64 0, .int .i64 0, .int .i64 0, .int .i64 0] := by kernel_rfl
theorem bytes_105 : bytesOf Tryz.prog 105 = some 32 := by kernel_rfl
theorem eqf_105 : eqfOf Tryz.prog 105 = some [(3, 0), (32, 1), (3, 3)] := by kernel_rfl
theorem ng_105 : noGuard Tryz.prog 105 = true := by kernel_rfl
theorem field_105x0 : fieldOf Tryz.prog 105 0 = some (3, 0) := by kernel_rfl
theorem field_105x1 : fieldOf Tryz.prog 105 1 = some (32, 1) := by kernel_rfl
theorem field_105x2 : fieldOf Tryz.prog 105 2 = some (3, 3) := by kernel_rfl
theorem places_105 : placesOf Tryz.prog 105 = some [(0, 1), (1, 2), (3, 1)] := by kernel_rfl
attribute [simp] sz_105 agg_105 zero_105 bytes_105 eqf_105 ng_105 field_105x0 field_105x1 field_105x2 places_105
theorem sz_106 : szOf Tryz.prog 106 = some 4 := by kernel_rfl
theorem agg_106 : aggOf Tryz.prog 106 = some true := by kernel_rfl
theorem zero_106 : zeroOf Tryz.prog 106 = some [.int .i64 0, .int .i64 0, .int .i64 0, .int .i64 0] := by kernel_rfl
theorem bytes_106 : bytesOf Tryz.prog 106 = some 32 := by kernel_rfl
theorem eqf_106 : eqfOf Tryz.prog 106 = some [(3, 0), (32, 1), (3, 3)] := by kernel_rfl
theorem ng_106 : noGuard Tryz.prog 106 = true := by kernel_rfl
theorem field_106x0 : fieldOf Tryz.prog 106 0 = some (3, 0) := by kernel_rfl
theorem field_106x1 : fieldOf Tryz.prog 106 1 = some (32, 1) := by kernel_rfl
theorem field_106x2 : fieldOf Tryz.prog 106 2 = some (3, 3) := by kernel_rfl
theorem places_106 : placesOf Tryz.prog 106 = some [(0, 1), (1, 2), (3, 1)] := by kernel_rfl
attribute [simp] sz_106 agg_106 zero_106 bytes_106 eqf_106 ng_106 field_106x0 field_106x1 field_106x2 places_106
theorem sz_107 : szOf Tryz.prog 107 = some 1 := by kernel_rfl
theorem agg_107 : aggOf Tryz.prog 107 = some false := by kernel_rfl
theorem zero_107 : zeroOf Tryz.prog 107 = some [.nilFunc] := by kernel_rfl
theorem bytes_107 : bytesOf Tryz.prog 107 = some 8 := by kernel_rfl
attribute [simp] sz_107 agg_107 zero_107 bytes_107
theorem sz_108 : szOf Tryz.prog 108 = some 1 := by kernel_rfl
theorem agg_108 : aggOf Tryz.prog 108 = some false := by kernel_rfl
theorem zero_108 : zeroOf Tryz.prog 108 = some [.nilFunc] := by kernel_rfl
theorem bytes_108 : bytesOf Tryz.prog 108 = some 8 := by kernel_rfl
attribute [simp] sz_108 agg_108 zero_108 bytes_108
theorem sz_109 : szOf Tryz.prog 109 = some 1 := by kernel_rfl
theorem agg_109 : aggOf Tryz.prog 109 = some false := by kernel_rfl
theorem zero_109 : zeroOf Tryz.prog 109 = some [.nilFunc] := by kernel_rfl
theorem bytes_109 : bytesOf Tryz.prog 109 = some 8 := by kernel_rfl
attribute [simp] sz_109 agg_109 zero_109 bytes_109
theorem sz_110 : szOf Tryz.prog 110 = some 1 := by kernel_rfl
theorem agg_110 : aggOf Tryz.prog 110 = some false := by kernel_rfl
theorem zero_110 : zeroOf Tryz.prog 110 = some [.slice none 0 0] := by kernel_rfl
theorem bytes_110 : bytesOf Tryz.prog 110 = some 24 := by kernel_rfl
theorem elem_110 : elemOf Tryz.prog 110 = some 212 := by kernel_rfl
attribute [simp] sz_110 agg_110 zero_110 bytes_110 elem_110
theorem sz_111 : szOf Tryz.prog 111 = some 7 := by kernel_rfl
theorem agg_111 : aggOf Tryz.prog 111 = some true := by kernel_rfl
theorem zero_111 : zeroOf Tryz.prog 111 = some [.string ⟨#[]⟩, .slice none 0 0, .slice none 0 0, .slice none 0 0, .slice none 0 0, .slice none 0 0, .slice none 0 0] := by kernel_rfl
theorem bytes_111 : bytesOf Tryz.prog 111 = some 160 := by kernel_rfl
theorem field_111x0 : fieldOf Tryz.prog 111 0 = some (9, 0) := by kernel_rfl
theorem field_111x1 : fieldOf Tryz.prog 111 1 = some (22, 1) := by kernel_rfl
theorem field_111x2 : fieldOf Tryz.prog 111 2 = some (22, 2) := by kernel_rfl
theorem field_111x3 : fieldOf Tryz.prog 111 3 = some (22, 3) := by kernel_rfl
theorem field_111x4 : fieldOf Tryz.prog 111 4 = some (22, 4) := by kernel_rfl
theorem field_111x5 : fieldOf Tryz.prog 111 5 = some (110, 5) := by kernel_rfl
theorem field_111x6 : fieldOf Tryz.prog 111 6 = some (53, 6) := by kernel_rfl
theorem places_111 : placesOf Tryz.prog 111 = some [(0, 1), (1, 1), (2, 1), (3, 1), (4, 1), (5, 1), (6, 1)] := by kernel_rfl
attribute [simp] sz_111 agg_111 zero_111 bytes_111 field_111x0 field_111x1 field_111x2 field_111x3 field_111x4 field_111x5 field_111x6 places_111
theorem sz_112 : szOf Tryz.prog 112 = some 7 := by kernel_rfl
theorem agg_112 : aggOf Tryz.prog 112 = some true := by kernel_rfl
theorem zero_112 : zeroOf Tryz.prog 112 = some [.string ⟨#[]⟩, .slice none 0 0, .slice none 0 0, .slice none 0 0, .slice none 0 0, .slice none 0 0, .slice none 0 0] := by kernel_rfl
theorem bytes_112 : bytesOf Tryz.prog 112 = some 160 := by kernel_rfl
theorem field_112x0 : fieldOf Tryz.prog 112 0 = some (9, 0) := by kernel_rfl
theorem field_112x1 : fieldOf Tryz.prog 112 1 = some (22, 1) := by kernel_rfl
theorem field_112x2 : fieldOf Tryz.prog 112 2 = some (22, 2) := by kernel_rfl
theorem field_112x3 : fieldOf Tryz.prog 112 3 = some (22, 3) := by kernel_rfl
theorem field_112x4 : fieldOf Tryz.prog 112 4 = some (22, 4) := by kernel_rfl
theorem field_112x5 : fieldOf Tryz.prog 112 5 = some (110, 5) := by kernel_rfl
theorem field_112x6 : fieldOf Tryz.prog 112 6 = some (53, 6) := by kernel_rfl
theorem places_112 : placesOf Tryz.prog 112 = some [(0, 1), (1, 1), (2, 1), (3, 1), (4, 1), (5, 1), (6, 1)] := by kernel_rfl
attribute [simp] sz_112 agg_112 zero_112 bytes_112 field_112x0 field_112x1 field_112x2 field_112x3 field_112x4 field_112x5 field_112x6 places_112
theorem sz_113 : szOf Tryz.prog 113 = some 1 := by kernel_rfl
theorem agg_113 : aggOf Tryz.prog 113 = some false := by kernel_rfl
theorem zero_113 : zeroOf Tryz.prog 113 = some [.nilFunc] := by kernel_rfl
theorem bytes_113 : bytesOf Tryz.prog 113 = some 8 := by kernel_rfl
attribute [simp] sz_113 agg_113 zero_113 bytes_113
theorem sz_114 : szOf Tryz.prog 114 = some 1 := by kernel_rfl
theorem agg_114 : aggOf Tryz.prog 114 = some false := by kernel_rfl
theorem zero_114 : zeroOf Tryz.prog 114 = some [.nilFunc] := by kernel_rfl
theorem bytes_114 : bytesOf Tryz.prog 114 = some 8 := by kernel_rfl
attribute [simp] sz_114 agg_114 zero_114 bytes_114
theorem sz_115 : szOf Tryz.prog 115 = some 1 := by kernel_rfl
theorem agg_115 : aggOf Tryz.prog 115 = some false := by kernel_rfl
theorem zero_115 : zeroOf Tryz.prog 115 = some [.nilFunc] := by kernel_rfl
theorem bytes_115 : bytesOf Tryz.prog 115 = some 8 := by kernel_rfl
attribute [simp] sz_115 agg_115 zero_115 bytes_115
theorem sz_116 : szOf Tryz.prog 116 = some 1 := by kernel_rfl
theorem agg_116 : aggOf Tryz.prog 116 = some false := by kernel_rfl
theorem zero_116 : zeroOf Tryz.prog 116 = some [.pointer none] := by kernel_rfl
theorem bytes_116 : bytesOf Tryz.prog 116 = some 8 := by kernel_rfl
theorem ptr_116 : isPtr Tryz.prog 116 = true := by kernel_rfl
attribute [simp] sz_116 agg_116 zero_116 bytes_116 ptr_116
theorem sz_117 : szOf Tryz.prog 117 = some 1 := by kernel_rfl
theorem agg_117 : aggOf Tryz.prog 117 = some true := by kernel_rfl
theorem zero_117 : zeroOf Tryz.prog 117 = some [.slice none 0 0] := by kernel_rfl
theorem bytes_117 : bytesOf Tryz.prog 117 = some 24 := by kernel_rfl
theorem field_117x0 : fieldOf Tryz.prog 117 0 = some (22, 0) := by kernel_rfl
theorem places_117 : placesOf Tryz.prog 117 = some [(0, 1)] := by kernel_rfl
attribute [simp] sz_117 agg_117 zero_117 bytes_117 field_117x0 places_117
theorem sz_118 : szOf Tryz.prog 118 = some 1 := by kernel_rfl
theorem agg_118 : aggOf Tryz.prog 118 = some true := by kernel_rfl
theorem zero_118 : zeroOf Tryz.prog 118 = some [.slice none 0 0] := by kernel_rfl
theorem bytes_118 : bytesOf Tryz.prog 118 = some 24 := by kernel_rfl
theorem field_118x0 : fieldOf Tryz.prog 118 0 = some (22, 0) := by kernel_rfl
theorem places_118 : placesOf Tryz.prog 118 = some [(0, 1)] := by kernel_rfl
attribute [simp] sz_118 agg_118 zero_118 bytes_118 field_118x0 places_118
theorem sz_119 : szOf Tryz.prog 119 = some 1 := by kernel_rfl
theorem agg_119 : aggOf Tryz.prog 119 = some false := by kernel_rfl
theorem zero_119 : zeroOf Tryz.prog 119 = some [.nilFunc] := by kernel_rfl
theorem bytes_119 : bytesOf Tryz.prog 119 = some 8 := by kernel_rfl
attribute [simp] sz_119 agg_119 zero_119 bytes_119
theorem sz_120 : szOf Tryz.prog 120 = some 1 := by kernel_rfl
theorem agg_120 : aggOf Tryz.prog 120 = some false := by kernel_rfl
theorem zero_120 : zeroOf Tryz.prog 120 = some [.nilFunc] := by kernel_rfl
theorem bytes_120 : bytesOf Tryz.prog 120 = some 8 := by kernel_rfl
attribute [simp] sz_120 agg_120 zero_120 bytes_120
theorem sz_121 : szOf Tryz.prog 121 = some 1 := by kernel_rfl
theorem agg_121 : aggOf Tryz.prog 121 = some false := by kernel_rfl
theorem zero_121 : zeroOf Tryz.prog 121 = some [.nilFunc] := by kernel_rfl
theorem bytes_121 : bytesOf Tryz.prog 121 = some 8 := by kernel_rfl
attribute [simp] sz_121 agg_121 zero_121 bytes_121
theorem sz_122 : szOf Tryz.prog 122 = some 1 := by kernel_rfl
theorem agg_122 : aggOf Tryz.prog 122 = some false := by kernel_rfl
theorem zero_122 : zeroOf Tryz.prog 122 = some [.slice none 0 0] := by kernel_rfl
theorem bytes_122 : bytesOf Tryz.prog 122 = some 24 := by kernel_rfl
theorem elem_122 : elemOf Tryz.prog 122 = some 126 := by kernel_rfl
attribute [simp] sz_122 agg_122 zero_122 bytes_122 elem_122
theorem sz_123 : szOf Tryz.prog 123 = some 2 := by kernel_rfl
theorem agg_123 : aggOf Tryz.prog 123 = some true := by kernel_rfl
theorem zero_123 : zeroOf Tryz.prog 123 = some [.string ⟨#[]⟩, .slice none 0 0] := by kernel_rfl
theorem bytes_123 : bytesOf Tryz.prog 123 = some 40 := by kernel_rfl
theorem field_123x0 : fieldOf Tryz.prog 123 0 = some (9, 0) := by kernel_rfl
theorem field_123x1 : fieldOf Tryz.prog 123 1 = some (122, 1) := by kernel_rfl
theorem places_123 : placesOf Tryz.prog 123 = some [(0, 1), (1, 1)] := by kernel_rfl
attribute [simp] sz_123 agg_123 zero_123 bytes_123 field_123x0 field_123x1 places_123
theorem sz_124 : szOf Tryz.prog 124 = some 2 := by kernel_rfl
theorem agg_124 : aggOf Tryz.prog 124 = some true := by kernel_rfl
theorem zero_124 : zeroOf Tryz.prog 124 = some [.string ⟨#[]⟩, .slice none 0 0] := by kernel_rfl
theorem bytes_124 : bytesOf Tryz.prog 124 = some 40 := by kernel_rfl
theorem field_124x0 : fieldOf Tryz.prog 124 0 = some (9, 0) := by kernel_rfl
theorem field_124x1 : fieldOf Tryz.prog 124 1 = some (122, 1) := by kernel_rfl
theorem places_124 : placesOf Tryz.prog 124 = some [(0, 1), (1, 1)] := by kernel_rfl
attribute [simp] sz_124 agg_124 zero_124 bytes_124 field_124x0 field_124x1 places_124
theorem sz_125 : szOf Tryz.prog 125 = some 3 := by kernel_rfl
theorem agg_125 : aggOf Tryz.prog 125 = some true := by kernel_rfl
theorem zero_125 : zeroOf Tryz.prog 125 = some [.string ⟨#[]⟩, .int .i64 0, .int .i64 0] := by kernel_rfl
theorem bytes_125 : bytesOf Tryz.prog 125 = some 32 := by kernel_rfl
theorem eqf_125 : eqfOf Tryz.prog 125 = some [(9, 0), (3, 1), (3, 2)] := by kernel_rfl
theorem ng_125 : noGuard Tryz.prog 125 = true := by kernel_rfl
theorem field_125x0 : fieldOf Tryz.prog 125 0 = some (9, 0) := by kernel_rfl
theorem field_125x1 : fieldOf Tryz.prog 125 1 = some (3, 1) := by kernel_rfl
theorem field_125x2 : fieldOf Tryz.prog 125 2 = some (3, 2) := by kernel_rfl
theorem places_125 : placesOf Tryz.prog 125 = some [(0, 1), (1, 1), (2, 1)] := by kernel_rfl
attribute [simp] sz_125 agg_125 zero_125 bytes_125 eqf_125 ng_125 field_125x0 field_125x1 field_125x2 places_125
theorem sz_126 : szOf Tryz.prog 126 = some 3 := by kernel_rfl
theorem agg_126 : aggOf Tryz.prog 126 = some true := by kernel_rfl
theorem zero_126 : zeroOf Tryz.prog 126 = some [.string ⟨#[]⟩, .int .i64 0, .int .i64 0] := by kernel_rfl
theorem bytes_126 : bytesOf Tryz.prog 126 = some 32 := by kernel_rfl
theorem eqf_126 : eqfOf Tryz.prog 126 = some [(9, 0), (3, 1), (3, 2)] := by kernel_rfl
theorem ng_126 : noGuard Tryz.prog 126 = true := by kernel_rfl
theorem field_126x0 : fieldOf Tryz.prog 126 0 = some (9, 0) := by kernel_rfl
theorem field_126x1 : fieldOf Tryz.prog 126 1 = some (3, 1) := by kernel_rfl
theorem field_126x2 : fieldOf Tryz.prog 126 2 = some (3, 2) := by kernel_rfl
theorem places_126 : placesOf Tryz.prog 126 = some [(0, 1), (1, 1), (2, 1)] := by kernel_rfl
attribute [simp] sz_126 agg_126 zero_126 bytes_126 eqf_126 ng_126 field_126x0 field_126x1 field_126x2 places_126
theorem sz_127 : szOf Tryz.prog 127 = some 1 := by kernel_rfl
theorem agg_127 : aggOf Tryz.prog 127 = some false := by kernel_rfl
theorem zero_127 : zeroOf Tryz.prog 127 = some [.nilFunc] := by kernel_rfl
theorem bytes_127 : bytesOf Tryz.prog 127 = some 8 := by kernel_rfl
attribute [simp] sz_127 agg_127 zero_127 bytes_127
theorem sz_128 : szOf Tryz.prog 128 = some 1 := by kernel_rfl
theorem agg_128 : aggOf Tryz.prog 128 = some false := by kernel_rfl
theorem zero_128 : zeroOf Tryz.prog 128 = some [.nilFunc] := by kernel_rfl
theorem bytes_128 : bytesOf Tryz.prog 128 = some 8 := by kernel_rfl
attribute [simp] sz_128 agg_128 zero_128 bytes_128
theorem sz_130 : szOf Tryz.prog 130 = some 1 := by kernel_rfl
theorem agg_130 : aggOf Tryz.prog 130 = some false := by kernel_rfl
theorem zero_130 : zeroOf Tryz.prog 130 = some [.nilFunc] := by kernel_rfl
theorem bytes_130 : bytesOf Tryz.prog 130 = some 8 := by kernel_rfl
attribute [simp] sz_130 agg_130 zero_130 bytes_130
theorem sz_132 : szOf Tryz.prog 132 = some 1 := by kernel_rfl
theorem agg_132 : aggOf Tryz.prog 132 = some false := by kernel_rfl
theorem zero_132 : zeroOf Tryz.prog 132 = some [.nilFunc] := by kernel_rfl
theorem bytes_132 : bytesOf Tryz.prog 132 = some 8 := by kernel_rfl
attribute [simp] sz_132 agg_132 zero_132 bytes_132
theorem sz_133 : szOf Tryz.prog 133 = some 1 := by kernel_rfl
theorem agg_133 : aggOf Tryz.prog 133 = some false := by kernel_rfl
theorem zero_133 : zeroOf Tryz.prog 133 = some [.nilFunc] := by kernel_rfl
theorem bytes_133 : bytesOf Tryz.prog 133 = some 8 := by kernel_rfl
attribute [simp] sz_133 agg_133 zero_133 bytes_133
theorem sz_134 : szOf Tryz.prog 134 = some 1 := by kernel_rfl
theorem agg_134 : aggOf Tryz.prog 134 = some false := by kernel_rfl
theorem zero_134 : zeroOf Tryz.prog 134 = some [.nilFunc] := by kernel_rfl
theorem bytes_134 : bytesOf Tryz.prog 134 = some 8 := by kernel_rfl
attribute [simp] sz_134 agg_134 zero_134 bytes_134
theorem sz_135 : szOf Tryz.prog 135 = some 1 := by kernel_rfl
theorem agg_135 : aggOf Tryz.prog 135 = some false := by kernel_rfl
theorem zero_135 : zeroOf Tryz.prog 135 = some [.nilFunc] := by kernel_rfl
theorem bytes_135 : bytesOf Tryz.prog 135 = some 8 := by kernel_rfl
attribute [simp] sz_135 agg_135 zero_135 bytes_135
theorem sz_137 : szOf Tryz.prog 137 = some 1 := by kernel_rfl
theorem agg_137 : aggOf Tryz.prog 137 = some false := by kernel_rfl
theorem zero_137 : zeroOf Tryz.prog 137 = some [.nilFunc] := by kernel_rfl
theorem bytes_137 : bytesOf Tryz.prog 137 = some 8 := by kernel_rfl
attribute [simp] sz_137 agg_137 zero_137 bytes_137
theorem sz_138 : szOf Tryz.prog 138 = some 1 := by kernel_rfl
theorem agg_138 : aggOf Tryz.prog 138 = some false := by kernel_rfl
theorem zero_138 : zeroOf Tryz.prog 138 = some [.nilFunc] := by kernel_rfl
theorem bytes_138 : bytesOf Tryz.prog 138 = some 8 := by kernel_rfl
attribute [simp] sz_138 agg_138 zero_138 bytes_138
theorem sz_139 : szOf Tryz.prog 139 = some 1 := by kernel_rfl
theorem agg_139 : aggOf Tryz.prog 139 = some false := by kernel_rfl
theorem zero_139 : zeroOf Tryz.prog 139 = some [.pointer none] := by kernel_rfl
theorem bytes_139 : bytesOf Tryz.prog 139 = some 8 := by kernel_rfl
theorem ptr_139 : isPtr Tryz.prog 139 = true := by kernel_rfl
attribute [simp] sz_139 agg_139 zero_139 bytes_139 ptr_139
theorem sz_140 : szOf Tryz.prog 140 = some 1 := by kernel_rfl
theorem agg_140 : aggOf Tryz.prog 140 = some false := by kernel_rfl
theorem zero_140 : zeroOf Tryz.prog 140 = some [.nilFunc] := by kernel_rfl
theorem bytes_140 : bytesOf Tryz.prog 140 = some 8 := by kernel_rfl
attribute [simp] sz_140 agg_140 zero_140 bytes_140
theorem sz_141 : szOf Tryz.prog 141 = some 1 := by kernel_rfl
theorem agg_141 : aggOf Tryz.prog 141 = some false := by kernel_rfl
theorem zero_141 : zeroOf Tryz.prog 141 = some [.nilFunc] := by kernel_rfl
theorem bytes_141 : bytesOf Tryz.prog 141 = some 8 := by kernel_rfl
attribute [simp] sz_141 agg_141 zero_141 bytes_141
theorem sz_142 : szOf Tryz.prog 142 = some 1 := by kernel_rfl
theorem agg_142 : aggOf Tryz.prog 142 = some false := by kernel_rfl
theorem zero_142 : zeroOf Tryz.prog 142 = some [.nilFunc] := by kernel_rfl
theorem bytes_142 : bytesOf Tryz.prog 142 = some 8 := by kernel_rfl
attribute [simp] sz_142 agg_142 zero_142 bytes_142
theorem sz_143 : szOf Tryz.prog 143 = some 1 := by kernel_rfl
theorem agg_143 : aggOf Tryz.prog 143 = some false := by kernel_rfl
theorem zero_143 : zeroOf Tryz.prog 143 = some [.map none] := by kernel_rfl
theorem bytes_143 : bytesOf Tryz.prog 143 = some 8 := by kernel_rfl
theorem mapkv_143 : mapKV Tryz.prog 143 = some (.i64, 148) := by kernel_rfl
theorem zeropv_148 : zeroPV Tryz.prog 148 = some (.k (.pointer none)) := by kernel_rfl
attribute [simp] sz_143 agg_143 zero_143 bytes_143 mapkv_143 zeropv_148
theorem sz_144 : szOf Tryz.prog 144 = some 1 := by kernel_rfl
theorem agg_144 : aggOf Tryz.prog 144 = some false := by kernel_rfl
theorem zero_144 : zeroOf Tryz.prog 144 = some [.slice none 0 0] := by kernel_rfl
theorem bytes_144 : bytesOf Tryz.prog 144 = some 24 := by kernel_rfl
theorem elem_144 : elemOf Tryz.prog 144 = some 148 := by kernel_rfl
attribute [simp] sz_144 agg_144 zero_144 bytes_144 elem_144
theorem sz_145 : szOf Tryz.prog 145 = some 4 := by kernel_rfl
theorem agg_145 : aggOf Tryz.prog 145 = some true := by kernel_rfl
theorem zero_145 : zeroOf Tryz.prog 145 = some [.slice none 0 0, .slice none 0 0, .slice none 0 0, .map none] := by kernel_rfl
theorem bytes_145 : bytesOf Tryz.prog 145 = some 80 := by kernel_rfl
theorem field_145x0 : fieldOf Tryz.prog 145 0 = some (23, 0) := by kernel_rfl
theorem field_145x1 : fieldOf Tryz.prog 145 1 = some (22, 1) := by kernel_rfl
theorem field_145x2 : fieldOf Tryz.prog 145 2 = some (144, 2) := by kernel_rfl
theorem field_145x3 : fieldOf Tryz.prog 145 3 = some (143, 3) := by kernel_rfl
theorem places_145 : placesOf Tryz.prog 145 = some [(0, 1), (1, 1), (2, 1), (3, 1)] := by kernel_rfl
attribute [simp] sz_145 agg_145 zero_145 bytes_145 field_145x0 field_145x1 field_145x2 field_145x3 places_145
theorem sz_146 : szOf Tryz.prog 146 = some 4 := by kernel_rfl
theorem agg_146 : aggOf Tryz.prog 146 = some true := by kernel_rfl
theorem zero_146 : zeroOf Tryz.prog 146 = some [.slice none 0 0, .slice none 0 0, .slice none 0 0, .map none] := by kernel_rfl
theorem bytes_146 : bytesOf Tryz.prog 146 = some 80 := by kernel_rfl
theorem field_146x0 : fieldOf Tryz.prog 146 0 = some (23, 0) := by kernel_rfl
theorem field_146x1 : fieldOf Tryz.prog 146 1 = some (22, 1) := by kernel_rfl
theorem field_146x2 : fieldOf Tryz.prog 146 2 = some (144, 2) := by kernel_rfl
theorem field_146x3 : fieldOf Tryz.prog 146 3 = some (143, 3) := by kernel_rfl
theorem places_146 : placesOf Tryz.prog 146 = some [(0, 1), (1, 1), (2, 1), (3, 1)] := by kernel_rfl
attribute [simp] sz_146 agg_146 zero_146 bytes_146 field_146x0 field_146x1 field_146x2 field_146x3 places_146
theorem sz_147 : szOf Tryz.prog 147 = some 1 := by kernel_rfl
theorem agg_147 : aggOf Tryz.prog 147 = some false := by kernel_rfl
theorem zero_147 : zeroOf Tryz.prog 147 = some [.nilFunc] := by kernel_rfl
theorem bytes_147 : bytesOf Tryz.prog 147 = some 8 := by kernel_rfl
attribute [simp] sz_147 agg_147 zero_147 bytes_147
theorem sz_148 : szOf Tryz.prog 148 = some 1 := by kernel_rfl
theorem agg_148 : aggOf Tryz.prog 148 = some false := by kernel_rfl
theorem zero_148 : zeroOf Tryz.prog 148 = some [.pointer none] := by kernel_rfl
theorem bytes_148 : bytesOf Tryz.prog 148 = some 8 := by kernel_rfl
theorem ptr_148 : isPtr Tryz.prog 148 = true := by kernel_rfl
attribute [simp] sz_148 agg_148 zero_148 bytes_148 ptr_148
theorem sz_149 : szOf Tryz.prog 149 = some 1 := by kernel_rfl
theorem agg_149 : aggOf Tryz.prog 149 = some false := by kernel_rfl
theorem zero_149 : zeroOf Tryz.prog 149 = some [.nilFunc] := by kernel_rfl
theorem bytes_149 : bytesOf Tryz.prog 149 = some 8 := by kernel_rfl
attribute [simp] sz_149 agg_149 zero_149 bytes_149
theorem sz_150 : szOf Tryz.prog 150 = some 1 := by kernel_rfl
theorem agg_150 : aggOf Tryz.prog 150 = some false := by kernel_rfl
theorem zero_150 : zeroOf Tryz.prog 150 = some [.nilFunc] := by kernel_rfl
theorem bytes_150 : bytesOf Tryz.prog 150 = some 8 := by kernel_rfl
attribute [simp] sz_150 agg_150 zero_150 bytes_150
theorem sz_151 : szOf Tryz.prog 151 = some 1 := by kernel_rfl
theorem agg_151 : aggOf Tryz.prog 151 = some false := by kernel_rfl
theorem zero_151 : zeroOf Tryz.prog 151 = some [.pointer none] := by kernel_rfl
theorem bytes_151 : bytesOf Tryz.prog 151 = some 8 := by kernel_rfl
theorem ptr_151 : isPtr Tryz.prog 151 = true := by kernel_rfl
attribute [simp] sz_151 agg_151 zero_151 bytes_151 ptr_151
theorem sz_152 : szOf Tryz.prog 152 = some 1 := by kernel_rfl
theorem agg_152 : aggOf Tryz.prog 152 = some false := by kernel_rfl
theorem zero_152 : zeroOf Tryz.prog 152 = some [.slice none 0 0] := by kernel_rfl
theorem bytes_152 : bytesOf Tryz.prog 152 = some 24 := by kernel_rfl
theorem elem_152 : elemOf Tryz.prog 152 = some 233 := by kernel_rfl
attribute [simp] sz_152 agg_152 zero_152 bytes_152 elem_152
theorem sz_153 : szOf Tryz.prog 153 = some 3 := by kernel_rfl
theorem agg_153 : aggOf Tryz.prog 153 = some true := by kernel_rfl
theorem zero_153 : zeroOf Tryz.prog 153 = some [.slice none 0 0, .pointer none, .slice none 0 0] := by kernel_rfl
theorem bytes_153 : bytesOf Tryz.prog 153 = some 56 := by kernel_rfl
theorem field_153x0 : fieldOf Tryz.prog 153 0 = some (22, 0) := by kernel_rfl
theorem field_153x1 : fieldOf Tryz.prog 153 1 = some (151, 1) := by kernel_rfl
theorem field_153x2 : fieldOf Tryz.prog 153 2 = some (152, 2) := by kernel_rfl
theorem places_153 : placesOf Tryz.prog 153 = some [(0, 1), (1, 1), (2, 1)] := by kernel_rfl
attribute [simp] sz_153 agg_153 zero_153 bytes_153 field_153x0 field_153x1 field_153x2 places_153
theorem sz_154 : szOf Tryz.prog 154 = some 3 := by kernel_rfl
theorem agg_154 : aggOf Tryz.prog 154 = some true := by kernel_rfl
theorem zero_154 : zeroOf Tryz.prog 154 = some [.slice none 0 0, .pointer none, .slice none 0 0] := by kernel_rfl
theorem bytes_154 : bytesOf Tryz.prog 154 = some 56 := by kernel_rfl
theorem field_154x0 : fieldOf Tryz.prog 154 0 = some (22, 0) := by kernel_rfl
theorem field_154x1 : fieldOf Tryz.prog 154 1 = some (151, 1) := by kernel_rfl
theorem field_154x2 : fieldOf Tryz.prog 154 2 = some (152, 2) := by kernel_rfl
theorem places_154 : placesOf Tryz.prog 154 = some [(0, 1), (1, 1), (2, 1)] := by kernel_rfl
attribute [simp] sz_154 agg_154 zero_154 bytes_154 field_154x0 field_154x1 field_154x2 places_154
theorem sz_155 : szOf Tryz.prog 155 = some 1 := by kernel_rfl
theorem agg_155 : aggOf Tryz.prog 155 = some false := by kernel_rfl
theorem zero_155 : zeroOf Tryz.prog 155 = some [.nilFunc] := by kernel_rfl
theorem bytes_155 : bytesOf Tryz.prog 155 = some 8 := by kernel_rfl
attribute [simp] sz_155 agg_155 zero_155 bytes_155
theorem sz_156 : szOf Tryz.prog 156 = some 1 := by kernel_rfl
theorem agg_156 : aggOf Tryz.prog 156 = some false := by kernel_rfl
theorem zero_156 : zeroOf Tryz.prog 156 = some [.nilFunc] := by kernel_rfl
theorem bytes_156 : bytesOf Tryz.prog 156 = some 8 := by kernel_rfl
attribute [simp] sz_156 agg_156 zero_156 bytes_156
theorem sz_157 : szOf Tryz.prog 157 = some 1 := by kernel_rfl
theorem agg_157 : aggOf Tryz.prog 157 = some false := by kernel_rfl
theorem zero_157 : zeroOf Tryz.prog 157 = some [.nilFunc] := by kernel_rfl
theorem bytes_157 : bytesOf Tryz.prog 157 = some 8 := by kernel_rfl
attribute [simp] sz_157 agg_157 zero_157 bytes_157
theorem sz_158 : szOf Tryz.prog 158 = some 1 := by kernel_rfl
theorem agg_158 : aggOf Tryz.prog 158 = some false := by kernel_rfl
theorem zero_158 : zeroOf Tryz.prog 158 = some [.nilFunc] := by kernel_rfl
theorem bytes_158 : bytesOf Tryz.prog 158 = some 8 := by kernel_rfl
attribute [simp] sz_158 agg_158 zero_158 bytes_158
theorem sz_159 : szOf Tryz.prog 159 = some 1 := by kernel_rfl
theorem agg_159 : aggOf Tryz.prog 159 = some false := by kernel_rfl
theorem zero_159 : zeroOf Tryz.prog 159 = some [.nilFunc] := by kernel_rfl
theorem bytes_159 : bytesOf Tryz.prog 159 = some 8 := by kernel_rfl
attribute [simp] sz_159 agg_159 zero_159 bytes_159
theorem sz_160 : szOf Tryz.prog 160 = some 1 := by kernel_rfl
theorem agg_160 : aggOf Tryz.prog 160 = some false := by kernel_rfl
theorem zero_160 : zeroOf Tryz.prog 160 = some [.nilFunc] := by kernel_rfl
theorem bytes_160 : bytesOf Tryz.prog 160 = some 8 := by kernel_rfl
attribute [simp] sz_160 agg_160 zero_160 bytes_160
theorem sz_161 : szOf Tryz.prog 161 = some 1 := by kernel_rfl
theorem agg_161 : aggOf Tryz.prog 161 = some false := by kernel_rfl
theorem zero_161 : zeroOf Tryz.prog 161 = some [.slice none 0 0] := by kernel_rfl
theorem bytes_161 : bytesOf Tryz.prog 161 = some 24 := by kernel_rfl
theorem elem_161 : elemOf Tryz.prog 161 = some 4 := by kernel_rfl
attribute [simp] sz_161 agg_161 zero_161 bytes_161 elem_161
theorem sz_163 : szOf Tryz.prog 163 = some 1 := by kernel_rfl
theorem agg_163 : aggOf Tryz.prog 163 = some false := by kernel_rfl
theorem zero_163 : zeroOf Tryz.prog 163 = some [.nilFunc] := by kernel_rfl
theorem bytes_163 : bytesOf Tryz.prog 163 = some 8 := by kernel_rfl
attribute [simp] sz_163 agg_163 zero_163 bytes_163
theorem sz_164 : szOf Tryz.prog 164 = some 1 := by kernel_rfl
theorem agg_164 : aggOf Tryz.prog 164 = some false := by kernel_rfl
theorem zero_164 : zeroOf Tryz.prog 164 = some [.nilFunc] := by kernel_rfl
theorem bytes_164 : bytesOf Tryz.prog 164 = some 8 := by kernel_rfl
attribute [simp] sz_164 agg_164 zero_164 bytes_164
theorem sz_165 : szOf Tryz.prog 165 = some 1 := by kernel_rfl
theorem agg_165 : aggOf Tryz.prog 165 = some false := by kernel_rfl
theorem zero_165 : zeroOf Tryz.prog 165 = some [.nilFunc] := by kernel_rfl
theorem bytes_165 : bytesOf Tryz.prog 165 = some 8 := by kernel_rfl
attribute [simp] sz_165 agg_165 zero_165 bytes_165
theorem sz_166 : szOf Tryz.prog 166 = some 1 := by kernel_rfl
theorem agg_166 : aggOf Tryz.prog 166 = some false := by kernel_rfl
theorem zero_166 : zeroOf Tryz.prog 166 = some [.nilFunc] := by kernel_rfl
theorem bytes_166 : bytesOf Tryz.prog 166 = some 8 := by kernel_rfl
attribute [simp] sz_166 agg_166 zero_166 bytes_166
theorem sz_167 : szOf Tryz.prog 167 = some 1 := by kernel_rfl
theorem agg_167 : aggOf Tryz.prog 167 = some false := by kernel_rfl
theorem zero_167 : zeroOf Tryz.prog 167 = some [.nilFunc] := by kernel_rfl
theorem bytes_167 : bytesOf Tryz.prog 167 = some 8 := by kernel_rfl
attribute [simp] sz_167 agg_167 zero_167 bytes_167
theorem sz_168 : szOf Tryz.prog 168 = some 1 := by kernel_rfl
theorem agg_168 : aggOf Tryz.prog 168 = some false := by kernel_rfl
theorem zero_168 : zeroOf Tryz.prog 168 = some [.slice none 0 0] := by kernel_rfl
theorem bytes_168 : bytesOf Tryz.prog 168 = some 24 := by kernel_rfl
theorem elem_168 : elemOf Tryz.prog 168 = some 58 := by kernel_rfl
attribute [simp] sz_168 agg_168 zero_168 bytes_168 elem_168
theorem sz_169 : szOf Tryz.prog 169 = some 1 := by kernel_rfl
theorem agg_169 : aggOf Tryz.prog 169 = some false := by kernel_rfl
theorem zero_169 : zeroOf Tryz.prog 169 = some [.nilFunc] := by kernel_rfl
theorem bytes_169 : bytesOf Tryz.prog 169 = some 8 := by kernel_rfl
attribute [simp] sz_169 agg_169 zero_169 bytes_169
theorem sz_170 : szOf Tryz.prog 170 = some 1 := by kernel_rfl
theorem agg_170 : aggOf Tryz.prog 170 = some false := by kernel_rfl
theorem zero_170 : zeroOf Tryz.prog 170 = some [.slice none 0 0] := by kernel_rfl
theorem bytes_170 : bytesOf Tryz.prog 170 = some 24 := by kernel_rfl
theorem elem_170 : elemOf Tryz.prog 170 = some 26 := by kernel_rfl
attribute [simp] sz_170 agg_170 zero_170 bytes_170 elem_170
theorem sz_171 : szOf Tryz.prog 171 = some 1 := by kernel_rfl
theorem agg_171 : aggOf Tryz.prog 171 = some false := by kernel_rfl
theorem zero_171 : zeroOf Tryz.prog 171 = some [.nilFunc] := by kernel_rfl
theorem bytes_171 : bytesOf Tryz.prog 171 = some 8 := by kernel_rfl
attribute [simp] sz_171 agg_171 zero_171 bytes_171
theorem sz_172 : szOf Tryz.prog 172 = some 1 := by kernel_rfl
theorem agg_172 : aggOf Tryz.prog 172 = some false := by kernel_rfl
theorem zero_172 : zeroOf Tryz.prog 172 = some [.nilFunc] := by kernel_rfl
theorem bytes_172 : bytesOf Tryz.prog 172 = some 8 := by kernel_rfl
attribute [simp] sz_172 agg_172 zero_172 bytes_172
theorem sz_173 : szOf Tryz.prog 173 = some 1 := by kernel_rfl
theorem agg_173 : aggOf Tryz.prog 173 = some false := by kernel_rfl
theorem zero_173 : zeroOf Tryz.prog 173 = some [.nilFunc] := by kernel_rfl
theorem bytes_173 : bytesOf Tryz.prog 173 = some 8 := by kernel_rfl
attribute [simp] sz_173 agg_173 zero_173 bytes_173
theorem sz_174 : szOf Tryz.prog 174 = some 1 := by kernel_rfl
theorem agg_174 : aggOf Tryz.prog 174 = some false := by kernel_rfl
theorem zero_174 : zeroOf Tryz.prog 174 = some [.nilFunc] := by kernel_rfl
theorem bytes_174 : bytesOf Tryz.prog 174 = some 8 := by kernel_rfl
attribute [simp] sz_174 agg_174 zero_174 bytes_174
theorem sz_175 : szOf Tryz.prog 175 = some 1 := by kernel_rfl
theorem agg_175 : aggOf Tryz.prog 175 = some false := by kernel_rfl
theorem zero_175 : zeroOf Tryz.prog 175 = some [.nilFunc] := by kernel_rfl
theorem bytes_175 : bytesOf Tryz.prog 175 = some 8 := by kernel_rfl
attribute [simp] sz_175 agg_175 zero_175 bytes_175
theorem sz_176 : szOf Tryz.prog 176 = some 1 := by kernel_rfl
theorem agg_176 : aggOf Tryz.prog 176 = some false := by kernel_rfl
theorem zero_176 : zeroOf Tryz.prog 176 = some [.map none] := by kernel_rfl
theorem bytes_176 : bytesOf Tryz.prog 176 = some 8 := by kernel_rfl
attribute [simp] sz_176 agg_176 zero_176 bytes_176
theorem sz_177 : szOf Tryz.prog 177 = some 2 := by kernel_rfl
theorem agg_177 : aggOf Tryz.prog 177 = some true := by kernel_rfl
theorem zero_177 : zeroOf Tryz.prog 177 = some [.map none, .int .i64 0] := by kernel_rfl
theorem bytes_177 : bytesOf Tryz.prog 177 = some 16 := by kernel_rfl
theorem field_177x0 : fieldOf Tryz.prog 177 0 = some (176, 0) := by kernel_rfl
theorem field_177x1 : fieldOf Tryz.prog 177 1 = some (3, 1) := by kernel_rfl
theorem places_177 : placesOf Tryz.prog 177 = some [(0, 1), (1, 1)] := by kernel_rfl
attribute [simp] sz_177 agg_177 zero_177 bytes_177 field_177x0 field_177x1 places_177
theorem sz_178 : szOf Tryz.prog 178 = some 2 := by kernel_rfl
theorem agg_178 : aggOf Tryz.prog 178 = some true := by kernel_rfl
theorem zero_178 : zeroOf Tryz.prog 178 = some [.map none, .int .i64 0] := by kernel_rfl
theorem bytes_178 : bytesOf Tryz.prog 178 = some 16 := by kernel_rfl
theorem field_178x0 : fieldOf Tryz.prog 178 0 = some (176, 0) := by kernel_rfl
theorem field_178x1 : fieldOf Tryz.prog 178 1 = some (3, 1) := by kernel_rfl
theorem places_178 : placesOf Tryz.prog 178 = some [(0, 1), (1, 1)] := by kernel_rfl
attribute [simp] sz_178 agg_178 zero_178 bytes_178 field_178x0 field_178x1 places_178
theorem sz_179 : szOf Tryz.prog 179 = some 1 := by kernel_rfl
theorem agg_179 : aggOf Tryz.prog 179 = some false := by kernel_rfl
theorem zero_179 : zeroOf Tryz.prog 179 = some [.nilFunc] := by kernel_rfl
theorem bytes_179 : bytesOf Tryz.prog 179 = some 8 := by kernel_rfl
attribute [simp] sz_179 agg_179 zero_179 bytes_179
theorem sz_180 : szOf Tryz.prog 180 = some 1 := by kernel_rfl
theorem agg_180 : aggOf Tryz.prog 180 = some false := by kernel_rfl
theorem zero_180 : zeroOf Tryz.prog 180 = some [.nilFunc] := by kernel_rfl
theorem bytes_180 : bytesOf Tryz.prog 180 = some 8 := by kernel_rfl
attribute [simp] sz_180 agg_180 zero_180 bytes_180
theorem sz_181 : szOf Tryz.prog 181 = some 1 := by kernel_rfl
theorem agg_181 : aggOf Tryz.prog 181 = some false := by kernel_rfl
theorem zero_181 : zeroOf Tryz.prog 181 = some [.nilFunc] := by kernel_rfl
theorem bytes_181 : bytesOf Tryz.prog 181 = some 8 := by kernel_rfl
attribute [simp] sz_181 agg_181 zero_181 bytes_181
theorem sz_182 : szOf Tryz.prog 182 = some 1 := by kernel_rfl
theorem agg_182 : aggOf Tryz.prog 182 = some false := by kernel_rfl
theorem zero_182 : zeroOf Tryz.prog 182 = some [.nilFunc] := by kernel_rfl
theorem bytes_182 : bytesOf Tryz.prog 182 = some 8 := by kernel_rfl
attribute [simp] sz_182 agg_182 zero_182 bytes_182
theorem sz_183 : szOf Tryz.prog 183 = some 1 := by kernel_rfl
theorem agg_183 : aggOf Tryz.prog 183 = some false := by kernel_rfl
theorem zero_183 : zeroOf Tryz.prog 183 = some [.nilFunc] := by kernel_rfl
theorem bytes_183 : bytesOf Tryz.prog 183 = some 8 := by kernel_rfl
attribute [simp] sz_183 agg_183 zero_183 bytes_183
theorem sz_184 : szOf Tryz.prog 184 = some 1 := by kernel_rfl
theorem agg_184 : aggOf Tryz.prog 184 = some false := by kernel_rfl
theorem zero_184 : zeroOf Tryz.prog 184 = some [.nilFunc] := by kernel_rfl
theorem bytes_184 : bytesOf Tryz.prog 184 = some 8 := by kernel_rfl
attribute [simp] sz_184 agg_184 zero_184 bytes_184
theorem sz_185 : szOf Tryz.prog 185 = some 1 := by kernel_rfl
theorem agg_185 : aggOf Tryz.prog 185 = some false := by kernel_rfl
theorem zero_185 : zeroOf Tryz.prog 185 = some [.slice none 0 0] := by kernel_rfl
theorem bytes_185 : bytesOf Tryz.prog 185 = some 24 := by kernel_rfl
theorem elem_185 : elemOf Tryz.prog 185 = some 93 := by kernel_rfl
attribute [simp] sz_185 agg_185 zero_185 bytes_185 elem_185
theorem sz_186 : szOf Tryz.prog 186 = some 1 := by kernel_rfl
theorem agg_186 : aggOf Tryz.prog 186 = some false := by kernel_rfl
theorem zero_186 : zeroOf Tryz.prog 186 = some [.nilFunc] := by kernel_rfl
theorem bytes_186 : bytesOf Tryz.prog 186 = some 8 := by kernel_rfl
attribute [simp] sz_186 agg_186 zero_186 bytes_186
theorem sz_188 : szOf Tryz.prog 188 = some 1 := by kernel_rfl
theorem agg_188 : aggOf Tryz.prog 188 = some false := by kernel_rfl
theorem zero_188 : zeroOf Tryz.prog 188 = some [.nilFunc] := by kernel_rfl
theorem bytes_188 : bytesOf Tryz.prog 188 = some 8 := by kernel_rfl
attribute [simp] sz_188 agg_188 zero_188 bytes_188
theorem sz_189 : szOf Tryz.prog 189 = some 1 := by kernel_rfl
theorem agg_189 : aggOf Tryz.prog 189 = some false := by kernel_rfl
theorem zero_189 : zeroOf Tryz.prog 189 = some [.nilFunc] := by kernel_rfl
theorem bytes_189 : bytesOf Tryz.prog 189 = some 8 := by kernel_rfl
attribute [simp] sz_189 agg_189 zero_189 bytes_189
theorem sz_190 : szOf Tryz.prog 190 = some 1 := by kernel_rfl
theorem agg_190 : aggOf Tryz.prog 190 = some false := by kernel_rfl
theorem zero_190 : zeroOf Tryz.prog 190 = some [.nilFunc] := by kernel_rfl
theorem bytes_190 : bytesOf Tryz.prog 190 = some 8 := by kernel_rfl
attribute [simp] sz_190 agg_190 zero_190 bytes_190
theorem sz_191 : szOf Tryz.prog 191 = some 1 := by kernel_rfl
theorem agg_191 : aggOf Tryz.prog 191 = some false := by kernel_rfl
theorem zero_191 : zeroOf Tryz.prog 191 = some [.nilFunc] := by kernel_rfl
theorem bytes_191 : bytesOf Tryz.prog 191 = some 8 := by kernel_rfl
attribute [simp] sz_191 agg_191 zero_191 bytes_191
theorem sz_192 : szOf Tryz.prog 192 = some 1 := by kernel_rfl
theorem agg_192 : aggOf Tryz.prog 192 = some false := by kernel_rfl
theorem zero_192 : zeroOf Tryz.prog 192 = some [.nilFunc] := by kernel_rfl
theorem bytes_192 : bytesOf Tryz.prog 192 = some 8 := by kernel_rfl
attribute [simp] sz_192 agg_192 zero_192 bytes_192
theorem sz_193 : szOf Tryz.prog 193 = some 1 := by kernel_rfl
theorem agg_193 : aggOf Tryz.prog 193 = some false := by kernel_rfl
theorem zero_193 : zeroOf Tryz.prog 193 = some [.nilFunc] := by kernel_rfl
theorem bytes_193 : bytesOf Tryz.prog 193 = some 8 := by kernel_rfl
attribute [simp] sz_193 agg_193 zero_193 bytes_193
theorem sz_194 : szOf Tryz.prog 194 = some 1 := by kernel_rfl
theorem agg_194 : aggOf Tryz.prog 194 = some false := by kernel_rfl
theorem zero_194 : zeroOf Tryz.prog 194 = some [.nilFunc] := by kernel_rfl
theorem bytes_194 : bytesOf Tryz.prog 194 = some 8 := by kernel_rfl
attribute [simp] sz_194 agg_194 zero_194 bytes_194
theorem sz_195 : szOf Tryz.prog 195 = some 1 := by kernel_rfl
theorem agg_195 : aggOf Tryz.prog 195 = some false := by kernel_rfl
theorem zero_195 : zeroOf Tryz.prog 195 = some [.nilFunc] := by kernel_rfl
theorem bytes_195 : bytesOf Tryz.prog 195 = some 8 := by kernel_rfl
attribute [simp] sz_195 agg_195 zero_195 bytes_195
theorem sz_196 : szOf Tryz.prog 196 = some 1 := by kernel_rfl
theorem agg_196 : aggOf Tryz.prog 196 = some false := by kernel_rfl
theorem zero_196 : zeroOf Tryz.prog 196 = some [.nilFunc] := by kernel_rfl
theorem bytes_196 : bytesOf Tryz.prog 196 = some 8 := by kernel_rfl
attribute [simp] sz_196 agg_196 zero_196 bytes_196
theorem sz_197 : szOf Tryz.prog 197 = some 1 := by kernel_rfl
theorem agg_197 : aggOf Tryz.prog 197 = some false := by kernel_rfl
theorem zero_197 : zeroOf Tryz.prog 197 = some [.slice none 0 0] := by kernel_rfl
theorem bytes_197 : bytesOf Tryz.prog 197 = some 24 := by kernel_rfl
theorem elem_197 : elemOf Tryz.prog 197 = some 22 := by kernel_rfl
attribute [simp] sz_197 agg_197 zero_197 bytes_197 elem_197
theorem sz_199 : szOf Tryz.prog 199 = some 1 := by kernel_rfl
theorem agg_199 : aggOf Tryz.prog 199 = some false := by kernel_rfl
theorem zero_199 : zeroOf Tryz.prog 199 = some [.nilFunc] := by kernel_rfl
theorem bytes_199 : bytesOf Tryz.prog 199 = some 8 := by kernel_rfl
attribute [simp] sz_199 agg_199 zero_199 bytes_199
theorem sz_200 : szOf Tryz.prog 200 = some 1 := by kernel_rfl
theorem agg_200 : aggOf Tryz.prog 200 = some false := by kernel_rfl
theorem zero_200 : zeroOf Tryz.prog 200 = some [.slice none 0 0] := by kernel_rfl
theorem bytes_200 : bytesOf Tryz.prog 200 = some 24 := by kernel_rfl
theorem elem_200 : elemOf Tryz.prog 200 = some 100 := by kernel_rfl
attribute [simp] sz_200 agg_200 zero_200 bytes_200 elem_200
theorem sz_201 : szOf Tryz.prog 201 = some 1 := by kernel_rfl
theorem agg_201 : aggOf Tryz.prog 201 = some false := by kernel_rfl
theorem zero_201 : zeroOf Tryz.prog 201 = some [.slice none 0 0] := by kernel_rfl
theorem bytes_201 : bytesOf Tryz.prog 201 = some 24 := by kernel_rfl
theorem elem_201 : elemOf Tryz.prog 201 = some 204 := by kernel_rfl
attribute [simp] sz_201 agg_201 zero_201 bytes_201 elem_201
theorem sz_202 : szOf Tryz.prog 202 = some 1 := by kernel_rfl
theorem agg_202 : aggOf Tryz.prog 202 = some false := by kernel_rfl
theorem zero_202 : zeroOf Tryz.prog 202 = some [.nilFunc] := by kernel_rfl
theorem bytes_202 : bytesOf Tryz.prog 202 = some 8 := by kernel_rfl
attribute [simp] sz_202 agg_202 zero_202 bytes_202
theorem sz_203 : szOf Tryz.prog 203 = some 6 := by kernel_rfl
theorem agg_203 : aggOf Tryz.prog 203 = some true := by kernel_rfl
theorem zero_203 : zeroOf Tryz.prog 203 = some [.slice none 0 0, .slice none 0 0, .slice none 0 0, .slice none 0 0, .slice none 0 0, .int .i64 0] := by kernel_rfl
theorem bytes_203 : bytesOf Tryz.prog 203 = some 128 := by kernel_rfl
theorem field_203x0 : fieldOf Tryz.prog 203 0 = some (26, 0) := by kernel_rfl
theorem field_203x1 : fieldOf Tryz.prog 203 1 = some (52, 3) := by kernel_rfl
theorem field_203x2 : fieldOf Tryz.prog 203 2 = some (100, 4) := by kernel_rfl
theorem field_203x3 : fieldOf Tryz.prog 203 3 = some (33, 5) := by kernel_rfl
theorem places_203 : placesOf Tryz.prog 203 = some [(0, 3), (3, 1), (4, 1), (5, 1)] := by kernel_rfl
attribute [simp] sz_203 agg_203 zero_203 bytes_203 field_203x0 field_203x1 field_203x2 field_203x3 places_203
theorem sz_204 : szOf Tryz.prog 204 = some 6 := by kernel_rfl
theorem agg_204 : aggOf Tryz.prog 204 = some true := by kernel_rfl
theorem zero_204 : zeroOf Tryz.prog 204 = some [.slice none 0 0, .slice none 0 0, .slice none 0 0, .slice none 0 0, .slice none 0 0, .int .i64 0] := by kernel_rfl
theorem bytes_204 : bytesOf Tryz.prog 204 = some 128 := by kernel_rfl
theorem field_204x0 : fieldOf Tryz.prog 204 0 = some (26, 0) := by kernel_rfl
theorem field_204x1 : fieldOf Tryz.prog 204 1 = some (52, 3) := by kernel_rfl
theorem field_204x2 : fieldOf Tryz.prog 204 2 = some (100, 4) := by kernel_rfl
theorem field_204x3 : fieldOf Tryz.prog 204 3 = some (33, 5) := by kernel_rfl
theorem places_204 : placesOf Tryz.prog 204 = some [(0, 3), (3, 1), (4, 1), (5, 1)] := by kernel_rfl
attribute [simp] sz_204 agg_204 zero_204 bytes_204 field_204x0 field_204x1 field_204x2 field_204x3 places_204
theorem sz_205 : szOf Tryz.prog 205 = some 1 := by kernel_rfl
theorem agg_205 : aggOf Tryz.prog 205 = some false := by kernel_rfl
theorem zero_205 : zeroOf Tryz.prog 205 = some [.nilFunc] := by kernel_rfl
theorem bytes_205 : bytesOf Tryz.prog 205 = some 8 := by kernel_rfl
attribute [simp] sz_205 agg_205 zero_205 bytes_205
theorem sz_206 : szOf Tryz.prog 206 = some 1 := by kernel_rfl
theorem agg_206 : aggOf Tryz.prog 206 = some false := by kernel_rfl
theorem zero_206 : zeroOf Tryz.prog 206 = some [.pointer none] := by kernel_rfl
theorem bytes_206 : bytesOf Tryz.prog 206 = some 8 := by kernel_rfl
theorem ptr_206 : isPtr Tryz.prog 206 = true := by kernel_rfl
attribute [simp] sz_206 agg_206 zero_206 bytes_206 ptr_206
theorem sz_207 : szOf Tryz.prog 207 = some 2 := by kernel_rfl
theorem agg_207 : aggOf Tryz.prog 207 = some true := by kernel_rfl
theorem zero_207 : zeroOf Tryz.prog 207 = some [.int .i64 0, .int .i64 0] := by kernel_rfl
theorem bytes_207 : bytesOf Tryz.prog 207 = some 16 := by kernel_rfl
theorem eqf_207 : eqfOf Tryz.prog 207 = some [(3, 0), (3, 1)] := by kernel_rfl
theorem ng_207 : noGuard Tryz.prog 207 = true := by kernel_rfl
theorem field_207x0 : fieldOf Tryz.prog 207 0 = some (3, 0) := by kernel_rfl
theorem field_207x1 : fieldOf Tryz.prog 207 1 = some (3, 1) := by kernel_rfl
theorem places_207 : placesOf Tryz.prog 207 = some [(0, 1), (1, 1)] := by kernel_rfl
attribute [simp] sz_207 agg_207 zero_207 bytes_207 eqf_207 ng_207 field_207x0 field_207x1 places_207
theorem sz_208 : szOf Tryz.prog 208 = some 2 := by kernel_rfl
theorem agg_208 : aggOf Tryz.prog 208 = some true := by kernel_rfl
theorem zero_208 : zeroOf Tryz.prog 208 = some [.int .i64 0, .int .i64 0] := by kernel_rfl
theorem bytes_208 : bytesOf Tryz.prog 208 = some 16 := by kernel_rfl
theorem eqf_208 : eqfOf Tryz.prog 208 = some [(3, 0), (3, 1)] := by kernel_rfl
theorem ng_208 : noGuard Tryz.prog 208 = true := by kernel_rfl
theorem field_208x0 : fieldOf Tryz.prog 208 0 = some (3, 0) := by kernel_rfl
theorem field_208x1 : fieldOf Tryz.prog 208 1 = some (3, 1) := by kernel_rfl
theorem places_208 : placesOf Tryz.prog 208 = some [(0, 1), (1, 1)] := by kernel_rfl
attribute [simp] sz_208 agg_208 zero_208 bytes_208 eqf_208 ng_208 field_208x0 field_208x1 places_208
theorem sz_209 : szOf Tryz.prog 209 = some 4 := by kernel_rfl
theorem agg_209 : aggOf Tryz.prog 209 = some true := by kernel_rfl
theorem zero_209 : zeroOf Tryz.prog 209 = some [.bool false, .int .i64 0, .int .i64 0, .int .i64 0] := by kernel_rfl
theorem bytes_209 : bytesOf Tryz.prog 209 = some 32 := by kernel_rfl
theorem eqf_209 : eqfOf Tryz.prog 209 = some [(4, 0), (3, 1), (208, 2)] := by kernel_rfl
theorem ng_209 : noGuard Tryz.prog 209 = true := by kernel_rfl
theorem field_209x0 : fieldOf Tryz.prog 209 0 = some (4, 0) := by kernel_rfl
theorem field_209x1 : fieldOf Tryz.prog 209 1 = some (3, 1) := by kernel_rfl
theorem field_209x2 : fieldOf Tryz.prog 209 2 = some (208, 2) := by kernel_rfl
theorem places_209 : placesOf Tryz.prog 209 = some [(0, 1), (1, 1), (2, 2)] := by kernel_rfl
attribute [simp] sz_209 agg_209 zero_209 bytes_209 eqf_209 ng_209 field_209x0 field_209x1 field_209x2 places_209
theorem sz_210 : szOf Tryz.prog 210 = some 4 := by kernel_rfl
theorem agg_210 : aggOf Tryz.prog 210 = some true := by kernel_rfl
theorem zero_210 : zeroOf Tryz.prog 210 = some [.bool false, .int .i64 0, .int .i64 0, .int .i64 0] := by kernel_rfl
theorem bytes_210 : bytesOf Tryz.prog 210 = some 32 := by kernel_rfl
theorem eqf_210 : eqfOf Tryz.prog 210 = some [(4, 0), (3, 1), (208, 2)] := by kernel_rfl
theorem ng_210 : noGuard Tryz.prog 210 = true := by kernel_rfl
theorem field_210x0 : fieldOf Tryz.prog 210 0 = some (4, 0) := by kernel_rfl
theorem field_210x1 : fieldOf Tryz.prog 210 1 = some (3, 1) := by kernel_rfl
theorem field_210x2 : fieldOf Tryz.prog 210 2 = some (208, 2) := by kernel_rfl
theorem places_210 : placesOf Tryz.prog 210 = some [(0, 1), (1, 1), (2, 2)] := by kernel_rfl
attribute [simp] sz_210 agg_210 zero_210 bytes_210 eqf_210 ng_210 field_210x0 field_210x1 field_210x2 places_210
theorem sz_211 : szOf Tryz.prog 211 = some 11 := by kernel_rfl
theorem agg_211 : aggOf Tryz.prog 211 = some true := by kernel_rfl
theorem zero_211 : zeroOf Tryz.prog 211 = some [.int .i64 0, .int .i64 0, .int .i64 0, .bool false, .int .i64 0, .int .i64 0, .int .i64 0, .bool false, .int .i64 0, .int .i64 0, .int .i64 0] := by kernel_rfl
theorem bytes_211 : bytesOf Tryz.prog 211 = some 88 := by kernel_rfl
theorem eqf_211 : eqfOf Tryz.prog 211 = some [(3, 0), (208, 1), (210, 3), (210, 7)] := by kernel_rfl
theorem ng_211 : noGuard Tryz.prog 211 = true := by kernel_rfl
theorem field_211x0 : fieldOf Tryz.prog 211 0 = some (3, 0) := by kernel_rfl
theorem field_211x1 : fieldOf Tryz.prog 211 1 = some (208, 1) := by kernel_rfl
theorem field_211x2 : fieldOf Tryz.prog 211 2 = some (210, 3) := by kernel_rfl
theorem field_211x3 : fieldOf Tryz.prog 211 3 = some (210, 7) := by kernel_rfl
theorem places_211 : placesOf Tryz.prog 211 = some [(0, 1), (1, 2), (3, 4), (7, 4)] := by kernel_rfl
attribute [simp] sz_211 agg_211 zero_211 bytes_211 eqf_211 ng_211 field_211x0 field_211x1 field_211x2 field_211x3 places_211
theorem sz_212 : szOf Tryz.prog 212 = some 11 := by kernel_rfl
theorem agg_212 : aggOf Tryz.prog 212 = some true := by kernel_rfl
theorem zero_212 : zeroOf Tryz.prog 212 = some [.int .i64 0, .int .i64 0, .int .i64 0, .bool false, .int .i64 0, .int .i64 0, .int .i64 0, .bool false, .int .i64 0, .int .i64 0, .int .i64 0] := by kernel_rfl
theorem bytes_212 : bytesOf Tryz.prog 212 = some 88 := by kernel_rfl
theorem eqf_212 : eqfOf Tryz.prog 212 = some [(3, 0), (208, 1), (210, 3), (210, 7)] := by kernel_rfl
theorem ng_212 : noGuard Tryz.prog 212 = true := by kernel_rfl
theorem field_212x0 : fieldOf Tryz.prog 212 0 = some (3, 0) := by kernel_rfl
theorem field_212x1 : fieldOf Tryz.prog 212 1 = some (208, 1) := by kernel_rfl
theorem field_212x2 : fieldOf Tryz.prog 212 2 = some (210, 3) := by kernel_rfl
theorem field_212x3 : fieldOf Tryz.prog 212 3 = some (210, 7) := by kernel_rfl
theorem places_212 : placesOf Tryz.prog 212 = some [(0, 1), (1, 2), (3, 4), (7, 4)] := by kernel_rfl
attribute [simp] sz_212 agg_212 zero_212 bytes_212 eqf_212 ng_212 field_212x0 field_212x1 field_212x2 field_212x3 places_212
theorem sz_213 : szOf Tryz.prog 213 = some 1 := by kernel_rfl
theorem agg_213 : aggOf Tryz.prog 213 = some false := by kernel_rfl
theorem zero_213 : zeroOf Tryz.prog 213 = some [.slice none 0 0] := by kernel_rfl
theorem bytes_213 : bytesOf Tryz.prog 213 = some 24 := by kernel_rfl
theorem elem_213 : elemOf Tryz.prog 213 = some 9 := by kernel_rfl
attribute [simp] sz_213 agg_213 zero_213 bytes_213 elem_213
theorem sz_214 : szOf Tryz.prog 214 = some 1 := by kernel_rfl
theorem agg_214 : aggOf Tryz.prog 214 = some false := by kernel_rfl
theorem zero_214 : zeroOf Tryz.prog 214 = some [.nilFunc] := by kernel_rfl
theorem bytes_214 : bytesOf Tryz.prog 214 = some 8 := by kernel_rfl
attribute [simp] sz_214 agg_214 zero_214 bytes_214
theorem sz_215 : szOf Tryz.prog 215 = some 1 := by kernel_rfl
theorem agg_215 : aggOf Tryz.prog 215 = some false := by kernel_rfl
theorem zero_215 : zeroOf Tryz.prog 215 = some [.nilFunc] := by kernel_rfl
theorem bytes_215 : bytesOf Tryz.prog 215 = some 8 := by kernel_rfl
attribute [simp] sz_215 agg_215 zero_215 bytes_215
theorem sz_216 : szOf Tryz.prog 216 = some 1 := by kernel_rfl
theorem agg_216 : aggOf Tryz.prog 216 = some false := by kernel_rfl
theorem zero_216 : zeroOf Tryz.prog 216 = some [.nilFunc] := by kernel_rfl
theorem bytes_216 : bytesOf Tryz.prog 216 = some 8 := by kernel_rfl
attribute [simp] sz_216 agg_216 zero_216 bytes_216
theorem sz_217 : szOf Tryz.prog 217 = some 1 := by kernel_rfl
theorem agg_217 : aggOf Tryz.prog 217 = some false := by kernel_rfl
theorem zero_217 : zeroOf Tryz.prog 217 = some [.nilFunc] := by kernel_rfl
theorem bytes_217 : bytesOf Tryz.prog 217 = some 8 := by kernel_rfl
attribute [simp] sz_217 agg_217 zero_217 bytes_217
theorem sz_218 : szOf Tryz.prog 218 = some 1 := by kernel_rfl
theorem agg_218 : aggOf Tryz.prog 218 = some false := by kernel_rfl
theorem zero_218 : zeroOf Tryz.prog 218 = some [.nilFunc] := by kernel_rfl
theorem bytes_218 : bytesOf Tryz.prog 218 = some 8 := by kernel_rfl
attribute [simp] sz_218 agg_218 zero_218 bytes_218
theorem sz_219 : szOf Tryz.prog 219 = some 1 := by kernel_rfl
theorem agg_219 : aggOf Tryz.prog 219 = some false := by kernel_rfl
theorem zero_219 : zeroOf Tryz.prog 219 = some [.nilFunc] := by kernel_rfl
theorem bytes_219 : bytesOf Tryz.prog 219 = some 8 := by kernel_rfl
attribute [simp] sz_219 agg_219 zero_219 bytes_219
theorem sz_220 : szOf Tryz.prog 220 = some 1 := by kernel_rfl
theorem agg_220 : aggOf Tryz.prog 220 = some false := by kernel_rfl
theorem zero_220 : zeroOf Tryz.prog 220 = some [.nilFunc] := by kernel_rfl
theorem bytes_220 : bytesOf Tryz.prog 220 = some 8 := by kernel_rfl
attribute [simp] sz_220 agg_220 zero_220 bytes_220
theorem sz_221 : szOf Tryz.prog 221 = some 1 := by kernel_rfl
theorem agg_221 : aggOf Tryz.prog 221 = some false := by kernel_rfl
theorem zero_221 : zeroOf Tryz.prog 221 = some [.nilFunc] := by kernel_rfl
theorem bytes_221 : bytesOf Tryz.prog 221 = some 8 := by kernel_rfl
attribute [simp] sz_221 agg_221 zero_221 bytes_221
theorem sz_222 : szOf Tryz.prog 222 = some 1 := by kernel_rfl
theorem agg_222 : aggOf Tryz.prog 222 = some false := by kernel_rfl
theorem zero_222 : zeroOf Tryz.prog 222 = some [.int .u64 0] := by kernel_rfl
theorem bytes_222 : bytesOf Tryz.prog 222 = some 8 := by kernel_rfl
theorem int_222 : intOfT Tryz.prog 222 = some .u64 := by kernel_rfl
theorem und_222 : (Tryz.prog.underlying 222).isSome = true := by kernel_rfl
attribute [simp] sz_222 agg_222 zero_222 bytes_222 int_222 und_222
theorem sz_223 : szOf Tryz.prog 223 = some 1 := by kernel_rfl
theorem agg_223 : aggOf Tryz.prog 223 = some false := by kernel_rfl
theorem zero_223 : zeroOf Tryz.prog 223 = some [.nilFunc] := by kernel_rfl
theorem bytes_223 : bytesOf Tryz.prog 223 = some 8 := by kernel_rfl
attribute [simp] sz_223 agg_223 zero_223 bytes_223
theorem sz_224 : szOf Tryz.prog 224 = some 1 := by kernel_rfl
theorem agg_224 : aggOf Tryz.prog 224 = some false := by kernel_rfl
theorem zero_224 : zeroOf Tryz.prog 224 = some [.nilFunc] := by kernel_rfl
theorem bytes_224 : bytesOf Tryz.prog 224 = some 8 := by kernel_rfl
attribute [simp] sz_224 agg_224 zero_224 bytes_224
theorem sz_225 : szOf Tryz.prog 225 = some 1 := by kernel_rfl
theorem agg_225 : aggOf Tryz.prog 225 = some false := by kernel_rfl
theorem zero_225 : zeroOf Tryz.prog 225 = some [.nilFunc] := by kernel_rfl
theorem bytes_225 : bytesOf Tryz.prog 225 = some 8 := by kernel_rfl
attribute [simp] sz_225 agg_225 zero_225 bytes_225
theorem sz_226 : szOf Tryz.prog 226 = some 1 := by kernel_rfl
theorem agg_226 : aggOf Tryz.prog 226 = some false := by kernel_rfl
theorem zero_226 : zeroOf Tryz.prog 226 = some [.nilFunc] := by kernel_rfl
theorem bytes_226 : bytesOf Tryz.prog 226 = some 8 := by kernel_rfl
attribute [simp] sz_226 agg_226 zero_226 bytes_226
theorem sz_227 : szOf Tryz.prog 227 = some 1 := by kernel_rfl
theorem agg_227 : aggOf Tryz.prog 227 = some false := by kernel_rfl
theorem zero_227 : zeroOf Tryz.prog 227 = some [.nilFunc] := by kernel_rfl
theorem bytes_227 : bytesOf Tryz.prog 227 = some 8 := by kernel_rfl
attribute [simp] sz_227 agg_227 zero_227 bytes_227
theorem sz_228 : szOf Tryz.prog 228 = some 1 := by kernel_rfl
theorem agg_228 : aggOf Tryz.prog 228 = some false := by kernel_rfl
theorem zero_228 : zeroOf Tryz.prog 228 = some [.nilFunc] := by kernel_rfl
theorem bytes_228 : bytesOf Tryz.prog 228 = some 8 := by kernel_rfl
attribute [simp] sz_228 agg_228 zero_228 bytes_228
theorem sz_229 : szOf Tryz.prog 229 = some 1 := by kernel_rfl
theorem agg_229 : aggOf Tryz.prog 229 = some false := by kernel_rfl
theorem zero_229 : zeroOf Tryz.prog 229 = some [.nilFunc] := by kernel_rfl
theorem bytes_229 : bytesOf Tryz.prog 229 = some 8 := by kernel_rfl
attribute [simp] sz_229 agg_229 zero_229 bytes_229
theorem sz_230 : szOf Tryz.prog 230 = some 1 := by kernel_rfl
theorem agg_230 : aggOf Tryz.prog 230 = some false := by kernel_rfl
theorem zero_230 : zeroOf Tryz.prog 230 = some [.nilFunc] := by kernel_rfl
theorem bytes_230 : bytesOf Tryz.prog 230 = some 8 := by kernel_rfl
attribute [simp] sz_230 agg_230 zero_230 bytes_230
theorem sz_231 : szOf Tryz.prog 231 = some 1 := by kernel_rfl
theorem agg_231 : aggOf Tryz.prog 231 = some false := by kernel_rfl
theorem zero_231 : zeroOf Tryz.prog 231 = some [.nilFunc] := by kernel_rfl
theorem bytes_231 : bytesOf Tryz.prog 231 = some 8 := by kernel_rfl
attribute [simp] sz_231 agg_231 zero_231 bytes_231
theorem sz_232 : szOf Tryz.prog 232 = some 1 := by kernel_rfl
theorem agg_232 : aggOf Tryz.prog 232 = some false := by kernel_rfl
theorem zero_232 : zeroOf Tryz.prog 232 = some [.nilFunc] := by kernel_rfl
theorem bytes_232 : bytesOf Tryz.prog 232 = some 8 := by kernel_rfl
attribute [simp] sz_232 agg_232 zero_232 bytes_232
theorem sz_233 : szOf Tryz.prog 233 = some 1 := by kernel_rfl
theorem agg_233 : aggOf Tryz.prog 233 = some false := by kernel_rfl
theorem zero_233 : zeroOf Tryz.prog 233 = some [.pointer none] := by kernel_rfl
theorem bytes_233 : bytesOf Tryz.prog 233 = some 8 := by kernel_rfl
theorem ptr_233 : isPtr Tryz.prog 233 = true := by kernel_rfl
attribute [simp] sz_233 agg_233 zero_233 bytes_233 ptr_233
theorem sz_234 : szOf Tryz.prog 234 = some 1 := by kernel_rfl
theorem agg_234 : aggOf Tryz.prog 234 = some false := by kernel_rfl
theorem zero_234 : zeroOf Tryz.prog 234 = some [.nilFunc] := by kernel_rfl
theorem bytes_234 : bytesOf Tryz.prog 234 = some 8 := by kernel_rfl
attribute [simp] sz_234 agg_234 zero_234 bytes_234
theorem sz_235 : szOf Tryz.prog 235 = some 1 := by kernel_rfl
theorem agg_235 : aggOf Tryz.prog 235 = some false := by kernel_rfl
theorem zero_235 : zeroOf Tryz.prog 235 = some [.nilFunc] := by kernel_rfl
theorem bytes_235 : bytesOf Tryz.prog 235 = some 8 := by kernel_rfl
attribute [simp] sz_235 agg_235 zero_235 bytes_235
theorem sz_236 : szOf Tryz.prog 236 = some 1 := by kernel_rfl
theorem agg_236 : aggOf Tryz.prog 236 = some false := by kernel_rfl
theorem zero_236 : zeroOf Tryz.prog 236 = some [.nilFunc] := by kernel_rfl
theorem bytes_236 : bytesOf Tryz.prog 236 = some 8 := by kernel_rfl
attribute [simp] sz_236 agg_236 zero_236 bytes_236
theorem sz_237 : szOf Tryz.prog 237 = some 1 := by kernel_rfl
theorem agg_237 : aggOf Tryz.prog 237 = some false := by kernel_rfl
theorem zero_237 : zeroOf Tryz.prog 237 = some [.nilFunc] := by kernel_rfl
theorem bytes_237 : bytesOf Tryz.prog 237 = some 8 := by kernel_rfl
attribute [simp] sz_237 agg_237 zero_237 bytes_237
theorem sz_238 : szOf Tryz.prog 238 = some 1 := by kernel_rfl
theorem agg_238 : aggOf Tryz.prog 238 = some false := by kernel_rfl
theorem zero_238 : zeroOf Tryz.prog 238 = some [.map none] := by kernel_rfl
theorem bytes_238 : bytesOf Tryz.prog 238 = some 8 := by kernel_rfl
theorem mapkv_238 : mapKV Tryz.prog 238 = some (.i64, 3) := by kernel_rfl
theorem zeropv_3 : zeroPV Tryz.prog 3 = some (.k (.int .i64 0)) := by kernel_rfl
attribute [simp] sz_238 agg_238 zero_238 bytes_238 mapkv_238 zeropv_3
theorem sz_239 : szOf Tryz.prog 239 = some 3 := by kernel_rfl
theorem agg_239 : aggOf Tryz.prog 239 = some true := by kernel_rfl
theorem zero_239 : zeroOf Tryz.prog 239 = some [.slice none 0 0, .slice none 0 0, .map none] := by kernel_rfl
theorem bytes_239 : bytesOf Tryz.prog 239 = some 56 := by kernel_rfl
theorem field_239x0 : fieldOf Tryz.prog 239 0 = some (58, 0) := by kernel_rfl
theorem field_239x1 : fieldOf Tryz.prog 239 1 = some (22, 1) := by kernel_rfl
theorem field_239x2 : fieldOf Tryz.prog 239 2 = some (238, 2) := by kernel_rfl
theorem places_239 : placesOf Tryz.prog 239 = some [(0, 1), (1, 1), (2, 1)] := by kernel_rfl
attribute [simp] sz_239 agg_239 zero_239 bytes_239 field_239x0 field_239x1 field_239x2 places_239
theorem sz_240 : szOf Tryz.prog 240 = some 3 := by kernel_rfl
theorem agg_240 : aggOf Tryz.prog 240 = some true := by kernel_rfl
theorem zero_240 : zeroOf Tryz.prog 240 = some [.slice none 0 0, .slice none 0 0, .map none] := by kernel_rfl
theorem bytes_240 : bytesOf Tryz.prog 240 = some 56 := by kernel_rfl
theorem field_240x0 : fieldOf Tryz.prog 240 0 = some (58, 0) := by kernel_rfl
theorem field_240x1 : fieldOf Tryz.prog 240 1 = some (22, 1) := by kernel_rfl
theorem field_240x2 : fieldOf Tryz.prog 240 2 = some (238, 2) := by kernel_rfl
theorem places_240 : placesOf Tryz.prog 240 = some [(0, 1), (1, 1), (2, 1)] := by kernel_rfl
attribute [simp] sz_240 agg_240 zero_240 bytes_240 field_240x0 field_240x1 field_240x2 places_240
theorem sz_241 : szOf Tryz.prog 241 = some 1 := by kernel_rfl
theorem agg_241 : aggOf Tryz.prog 241 = some false := by kernel_rfl
theorem zero_241 : zeroOf Tryz.prog 241 = some [.nilFunc] := by kernel_rfl
theorem bytes_241 : bytesOf Tryz.prog 241 = some 8 := by kernel_rfl
attribute [simp] sz_241 agg_241 zero_241 bytes_241
theorem sz_242 : szOf Tryz.prog 242 = some 1 := by kernel_rfl
theorem agg_242 : aggOf Tryz.prog 242 = some false := by kernel_rfl
theorem zero_242 : zeroOf Tryz.prog 242 = some [.nilFunc] := by kernel_rfl
theorem bytes_242 : bytesOf Tryz.prog 242 = some 8 := by kernel_rfl
attribute [simp] sz_242 agg_242 zero_242 bytes_242
theorem sz_244 : szOf Tryz.prog 244 = some 1 := by kernel_rfl
theorem agg_244 : aggOf Tryz.prog 244 = some false := by kernel_rfl
theorem zero_244 : zeroOf Tryz.prog 244 = some [.nilFunc] := by kernel_rfl
theorem bytes_244 : bytesOf Tryz.prog 244 = some 8 := by kernel_rfl
attribute [simp] sz_244 agg_244 zero_244 bytes_244
theorem sz_245 : szOf Tryz.prog 245 = some 1 := by kernel_rfl
theorem agg_245 : aggOf Tryz.prog 245 = some false := by kernel_rfl
theorem zero_245 : zeroOf Tryz.prog 245 = some [.nilFunc] := by kernel_rfl
theorem bytes_245 : bytesOf Tryz.prog 245 = some 8 := by kernel_rfl
attribute [simp] sz_245 agg_245 zero_245 bytes_245
theorem sz_246 : szOf Tryz.prog 246 = some 1 := by kernel_rfl
theorem agg_246 : aggOf Tryz.prog 246 = some false := by kernel_rfl
theorem zero_246 : zeroOf Tryz.prog 246 = some [.nilFunc] := by kernel_rfl
theorem bytes_246 : bytesOf Tryz.prog 246 = some 8 := by kernel_rfl
attribute [simp] sz_246 agg_246 zero_246 bytes_246
theorem sz_247 : szOf Tryz.prog 247 = some 1 := by kernel_rfl
theorem agg_247 : aggOf Tryz.prog 247 = some false := by kernel_rfl
theorem zero_247 : zeroOf Tryz.prog 247 = some [.nilFunc] := by kernel_rfl
theorem bytes_247 : bytesOf Tryz.prog 247 = some 8 := by kernel_rfl
attribute [simp] sz_247 agg_247 zero_247 bytes_247
theorem sz_248 : szOf Tryz.prog 248 = some 1 := by kernel_rfl
theorem agg_248 : aggOf Tryz.prog 248 = some false := by kernel_rfl
theorem zero_248 : zeroOf Tryz.prog 248 = some [.nilFunc] := by kernel_rfl
theorem bytes_248 : bytesOf Tryz.prog 248 = some 8 := by kernel_rfl
attribute [simp] sz_248 agg_248 zero_248 bytes_248
theorem sz_249 : szOf Tryz.prog 249 = some 1 := by kernel_rfl
theorem agg_249 : aggOf Tryz.prog 249 = some false := by kernel_rfl
theorem zero_249 : zeroOf Tryz.prog 249 = some [.nilFunc] := by kernel_rfl
theorem bytes_249 : bytesOf Tryz.prog 249 = some 8 := by kernel_rfl
attribute [simp] sz_249 agg_249 zero_249 bytes_249
theorem sz_250 : szOf Tryz.prog 250 = some 1 := by kernel_rfl
theorem agg_250 : aggOf Tryz.prog 250 = some false := by kernel_rfl
theorem zero_250 : zeroOf Tryz.prog 250 = some [.nilFunc] := by kernel_rfl
theorem bytes_250 : bytesOf Tryz.prog 250 = some 8 := by kernel_rfl
attribute [simp] sz_250 agg_250 zero_250 bytes_250
theorem sz_251 : szOf Tryz.prog 251 = some 1 := by kernel_rfl
theorem agg_251 : aggOf Tryz.prog 251 = some false := by kernel_rfl
theorem zero_251 : zeroOf Tryz.prog 251 = some [.nilFunc] := by kernel_rfl
theorem bytes_251 : bytesOf Tryz.prog 251 = some 8 := by kernel_rfl
attribute [simp] sz_251 agg_251 zero_251 bytes_251
theorem sz_252 : szOf Tryz.prog 252 = some 1 := by kernel_rfl
theorem agg_252 : aggOf Tryz.prog 252 = some false := by kernel_rfl
theorem zero_252 : zeroOf Tryz.prog 252 = some [.nilFunc] := by kernel_rfl
theorem bytes_252 : bytesOf Tryz.prog 252 = some 8 := by kernel_rfl
attribute [simp] sz_252 agg_252 zero_252 bytes_252
theorem sz_253 : szOf Tryz.prog 253 = some 1 := by kernel_rfl
theorem agg_253 : aggOf Tryz.prog 253 = some false := by kernel_rfl
theorem zero_253 : zeroOf Tryz.prog 253 = some [.nilFunc] := by kernel_rfl
theorem bytes_253 : bytesOf Tryz.prog 253 = some 8 := by kernel_rfl
attribute [simp] sz_253 agg_253 zero_253 bytes_253
theorem sz_254 : szOf Tryz.prog 254 = some 1 := by kernel_rfl
theorem agg_254 : aggOf Tryz.prog 254 = some false := by kernel_rfl
theorem zero_254 : zeroOf Tryz.prog 254 = some [.nilFunc] := by kernel_rfl
theorem bytes_254 : bytesOf Tryz.prog 254 = some 8 := by kernel_rfl
attribute [simp] sz_254 agg_254 zero_254 bytes_254
theorem sz_255 : szOf Tryz.prog 255 = some 1 := by kernel_rfl
theorem agg_255 : aggOf Tryz.prog 255 = some false := by kernel_rfl
theorem zero_255 : zeroOf Tryz.prog 255 = some [.nilFunc] := by kernel_rfl
theorem bytes_255 : bytesOf Tryz.prog 255 = some 8 := by kernel_rfl
attribute [simp] sz_255 agg_255 zero_255 bytes_255
theorem sz_256 : szOf Tryz.prog 256 = some 1 := by kernel_rfl
theorem agg_256 : aggOf Tryz.prog 256 = some false := by kernel_rfl
theorem zero_256 : zeroOf Tryz.prog 256 = some [.nilFunc] := by kernel_rfl
theorem bytes_256 : bytesOf Tryz.prog 256 = some 8 := by kernel_rfl
attribute [simp] sz_256 agg_256 zero_256 bytes_256
theorem sz_257 : szOf Tryz.prog 257 = some 1 := by kernel_rfl
theorem agg_257 : aggOf Tryz.prog 257 = some false := by kernel_rfl
theorem zero_257 : zeroOf Tryz.prog 257 = some [.nilFunc] := by kernel_rfl
theorem bytes_257 : bytesOf Tryz.prog 257 = some 8 := by kernel_rfl
attribute [simp] sz_257 agg_257 zero_257 bytes_257
theorem sz_258 : szOf Tryz.prog 258 = some 1 := by kernel_rfl
theorem agg_258 : aggOf Tryz.prog 258 = some false := by kernel_rfl
theorem zero_258 : zeroOf Tryz.prog 258 = some [.pointer none] := by kernel_rfl
theorem bytes_258 : bytesOf Tryz.prog 258 = some 8 := by kernel_rfl
theorem ptr_258 : isPtr Tryz.prog 258 = true := by kernel_rfl
attribute [simp] sz_258 agg_258 zero_258 bytes_258 ptr_258
theorem sz_259 : szOf Tryz.prog 259 = some 2 := by kernel_rfl
theorem agg_259 : aggOf Tryz.prog 259 = some true := by kernel_rfl
theorem zero_259 : zeroOf Tryz.prog 259 = some [.int .u64 0, .int .u64 0] := by kernel_rfl
theorem bytes_259 : bytesOf Tryz.prog 259 = some 16 := by kernel_rfl
theorem eqf_259 : eqfOf Tryz.prog 259 = some [(97, 0), (97, 1)] := by kernel_rfl
theorem ng_259 : noGuard Tryz.prog 259 = true := by kernel_rfl
theorem field_259x0 : fieldOf Tryz.prog 259 0 = some (97, 0) := by kernel_rfl
theorem field_259x1 : fieldOf Tryz.prog 259 1 = some (97, 1) := by kernel_rfl
theorem places_259 : placesOf Tryz.prog 259 = some [(0, 1), (1, 1)] := by kernel_rfl
attribute [simp] sz_259 agg_259 zero_259 bytes_259 eqf_259 ng_259 field_259x0 field_259x1 places_259
theorem sz_260 : szOf Tryz.prog 260 = some 2 := by kernel_rfl
theorem agg_260 : aggOf Tryz.prog 260 = some true := by kernel_rfl
theorem zero_260 : zeroOf Tryz.prog 260 = some [.int .u64 0, .int .u64 0] := by kernel_rfl
theorem bytes_260 : bytesOf Tryz.prog 260 = some 16 := by kernel_rfl
theorem eqf_260 : eqfOf Tryz.prog 260 = some [(97, 0), (97, 1)] := by kernel_rfl
theorem ng_260 : noGuard Tryz.prog 260 = true := by kernel_rfl
theorem field_260x0 : fieldOf Tryz.prog 260 0 = some (97, 0) := by kernel_rfl
theorem field_260x1 : fieldOf Tryz.prog 260 1 = some (97, 1) := by kernel_rfl
theorem places_260 : placesOf Tryz.prog 260 = some [(0, 1), (1, 1)] := by kernel_rfl
attribute [simp] sz_260 agg_260 zero_260 bytes_260 eqf_260 ng_260 field_260x0 field_260x1 places_260
theorem sz_261 : szOf Tryz.prog 261 = some 16 := by kernel_rfl
theorem agg_261 : aggOf Tryz.prog 261 = some true := by kernel_rfl
theorem zero_261 : zeroOf Tryz.prog 261 = some [.slice none 0 0, .string ⟨#[]⟩, .slice none 0 0, .slice none 0 0, .slice none 0 0, .slice none 0 0, .slice none 0 0, .slice none 0 0, .int .i64 0, .int .i64 0, .slice none 0 0, .int .u64 0, .int .u64 0, .slice none 0 0, .slice none 0 0, .int .i64 0] := by kernel_rfl
theorem bytes_261 : bytesOf Tryz.prog 261 = some 296 := by kernel_rfl
theorem field_261x0 : fieldOf Tryz.prog 261 0 = some (23, 0) := by kernel_rfl
theorem field_261x1 : fieldOf Tryz.prog 261 1 = some (112, 1) := by kernel_rfl
theorem field_261x2 : fieldOf Tryz.prog 261 2 = some (55, 8) := by kernel_rfl
theorem field_261x3 : fieldOf Tryz.prog 261 3 = some (260, 11) := by kernel_rfl
theorem field_261x4 : fieldOf Tryz.prog 261 4 = some (52, 13) := by kernel_rfl
theorem field_261x5 : fieldOf Tryz.prog 261 5 = some (100, 14) := by kernel_rfl
theorem field_261x6 : fieldOf Tryz.prog 261 6 = some (3, 15) := by kernel_rfl
theorem places_261 : placesOf Tryz.prog 261 = some [(0, 1), (1, 7), (8, 3), (11, 2), (13, 1), (14, 1), (15, 1)] := by kernel_rfl
attribute [simp] sz_261 agg_261 zero_261 bytes_261 field_261x0 field_261x1 field_261x2 field_261x3 field_261x4 field_261x5 field_261x6 places_261
theorem sz_262 : szOf Tryz.prog 262 = some 16 := by kernel_rfl
theorem agg_262 : aggOf Tryz.prog 262 = some true := by kernel_rfl
theorem zero_262 : zeroOf Tryz.prog 262 = some [.slice none 0 0, .string ⟨#[]⟩, .slice none 0 0, .slice none 0 0, .slice none 0 0, .slice none 0 0, .slice none 0 0, .slice none 0 0, .int .i64 0, .int .i64 0, .slice none 0 0, .int .u64 0, .int .u64 0, .slice none 0 0, .slice none 0 0, .int .i64 0] := by kernel_rfl
theorem bytes_262 : bytesOf Tryz.prog 262 = some 296 := by kernel_rfl
theorem field_262x0 : fieldOf Tryz.prog 262 0 = some (23, 0) := by kernel_rfl
theorem field_262x1 : fieldOf Tryz.prog 262 1 = some (112, 1) := by kernel_rfl
theorem field_262x2 : fieldOf Tryz.prog 262 2 = some (55, 8) := by kernel_rfl
theorem field_262x3 : fieldOf Tryz.prog 262 3 = some (260, 11) := by kernel_rfl
theorem field_262x4 : fieldOf Tryz.prog 262 4 = some (52, 13) := by kernel_rfl
theorem field_262x5 : fieldOf Tryz.prog 262 5 = some (100, 14) := by kernel_rfl
theorem field_262x6 : fieldOf Tryz.prog 262 6 = some (3, 15) := by kernel_rfl
theorem places_262 : placesOf Tryz.prog 262 = some [(0, 1), (1, 7), (8, 3), (11, 2), (13, 1), (14, 1), (15, 1)] := by kernel_rfl
attribute [simp] sz_262 agg_262 zero_262 bytes_262 field_262x0 field_262x1 field_262x2 field_262x3 field_262x4 field_262x5 field_262x6 places_262
theorem sz_263 : szOf Tryz.prog 263 = some 1 := by kernel_rfl
theorem agg_263 : aggOf Tryz.prog 263 = some false := by kernel_rfl
theorem zero_263 : zeroOf Tryz.prog 263 = some [.nilFunc] := by kernel_rfl
theorem bytes_263 : bytesOf Tryz.prog 263 = some 8 := by kernel_rfl
attribute [simp] sz_263 agg_263 zero_263 bytes_263
theorem sz_264 : szOf Tryz.prog 264 = some 1 := by kernel_rfl
theorem agg_264 : aggOf Tryz.prog 264 = some false := by kernel_rfl
theorem zero_264 : zeroOf Tryz.prog 264 = some [.nilFunc] := by kernel_rfl
theorem bytes_264 : bytesOf Tryz.prog 264 = some 8 := by kernel_rfl
attribute [simp] sz_264 agg_264 zero_264 bytes_264
theorem sz_265 : szOf Tryz.prog 265 = some 1 := by kernel_rfl
theorem agg_265 : aggOf Tryz.prog 265 = some false := by kernel_rfl
theorem zero_265 : zeroOf Tryz.prog 265 = some [.nilFunc] := by kernel_rfl
theorem bytes_265 : bytesOf Tryz.prog 265 = some 8 := by kernel_rfl
attribute [simp] sz_265 agg_265 zero_265 bytes_265
theorem sz_266 : szOf Tryz.prog 266 = some 1 := by kernel_rfl
theorem agg_266 : aggOf Tryz.prog 266 = some false := by kernel_rfl
theorem zero_266 : zeroOf Tryz.prog 266 = some [.nilFunc] := by kernel_rfl
theorem bytes_266 : bytesOf Tryz.prog 266 = some 8 := by kernel_rfl
attribute [simp] sz_266 agg_266 zero_266 bytes_266
theorem sz_267 : szOf Tryz.prog 267 = some 1 := by kernel_rfl
theorem agg_267 : aggOf Tryz.prog 267 = some false := by kernel_rfl
theorem zero_267 : zeroOf Tryz.prog 267 = some [.nilFunc] := by kernel_rfl
theorem bytes_267 : bytesOf Tryz.prog 267 = some 8 := by kernel_rfl
attribute [simp] sz_267 agg_267 zero_267 bytes_267
theorem sz_268 : szOf Tryz.prog 268 = some 1 := by kernel_rfl
theorem agg_268 : aggOf Tryz.prog 268 = some false := by kernel_rfl
theorem zero_268 : zeroOf Tryz.prog 268 = some [.nilFunc] := by kernel_rfl
theorem bytes_268 : bytesOf Tryz.prog 268 = some 8 := by kernel_rfl
attribute [simp] sz_268 agg_268 zero_268 bytes_268
theorem sz_269 : szOf Tryz.prog 269 = some 1 := by kernel_rfl
theorem agg_269 : aggOf Tryz.prog 269 = some false := by kernel_rfl
theorem zero_269 : zeroOf Tryz.prog 269 = some [.nilFunc] := by kernel_rfl
theorem bytes_269 : bytesOf Tryz.prog 269 = some 8 := by kernel_rfl
attribute [simp] sz_269 agg_269 zero_269 bytes_269
theorem sz_270 : szOf Tryz.prog 270 = some 1 := by kernel_rfl
theorem agg_270 : aggOf Tryz.prog 270 = some false := by kernel_rfl
theorem zero_270 : zeroOf Tryz.prog 270 = some [.nilFunc] := by kernel_rfl
theorem bytes_270 : bytesOf Tryz.prog 270 = some 8 := by kernel_rfl
attribute [simp] sz_270 agg_270 zero_270 bytes_270
theorem sz_271 : szOf Tryz.prog 271 = some 1 := by kernel_rfl
theorem agg_271 : aggOf Tryz.prog 271 = some false := by kernel_rfl
theorem zero_271 : zeroOf Tryz.prog 271 = some [.nilFunc] := by kernel_rfl
theorem bytes_271 : bytesOf Tryz.prog 271 = some 8 := by kernel_rfl
attribute [simp] sz_271 agg_271 zero_271 bytes_271
theorem sz_272 : szOf Tryz.prog 272 = some 1 := by kernel_rfl
theorem agg_272 : aggOf Tryz.prog 272 = some false := by kernel_rfl
theorem bytes_272 : bytesOf Tryz.prog 272 = some 8 := by kernel_rfl
attribute [simp] sz_272 agg_272 bytes_272
theorem sz_273 : szOf Tryz.prog 273 = some 0 := by kernel_rfl
theorem agg_273 : aggOf Tryz.prog 273 = some true := by kernel_rfl
theorem zero_273 : zeroOf Tryz.prog 273 = some [] := by kernel_rfl
theorem bytes_273 : bytesOf Tryz.prog 273 = some 0 := by kernel_rfl
theorem places_273 : placesOf Tryz.prog 273 = some [] := by kernel_rfl
attribute [simp] sz_273 agg_273 zero_273 bytes_273 places_273
theorem sz_274 : szOf Tryz.prog 274 = some 0 := by kernel_rfl
theorem agg_274 : aggOf Tryz.prog 274 = some true := by kernel_rfl
theorem zero_274 : zeroOf Tryz.prog 274 = some [] := by kernel_rfl
theorem bytes_274 : bytesOf Tryz.prog 274 = some 0 := by kernel_rfl
theorem places_274 : placesOf Tryz.prog 274 = some [] := by kernel_rfl
attribute [simp] sz_274 agg_274 zero_274 bytes_274 places_274
theorem sz_275 : szOf Tryz.prog 275 = some 0 := by kernel_rfl
theorem agg_275 : aggOf Tryz.prog 275 = some true := by kernel_rfl
theorem zero_275 : zeroOf Tryz.prog 275 = some [] := by kernel_rfl
theorem bytes_275 : bytesOf Tryz.prog 275 = some 0 := by kernel_rfl
theorem places_275 : placesOf Tryz.prog 275 = some [] := by kernel_rfl
attribute [simp] sz_275 agg_275 zero_275 bytes_275 places_275
theorem sz_276 : szOf Tryz.prog 276 = some 0 := by kernel_rfl
theorem agg_276 : aggOf Tryz.prog 276 = some true := by kernel_rfl
theorem zero_276 : zeroOf Tryz.prog 276 = some [] := by kernel_rfl
theorem bytes_276 : bytesOf Tryz.prog 276 = some 0 := by kernel_rfl
theorem places_276 : placesOf Tryz.prog 276 = some [] := by kernel_rfl
attribute [simp] sz_276 agg_276 zero_276 bytes_276 places_276
theorem sz_277 : szOf Tryz.prog 277 = some 1 := by kernel_rfl
theorem agg_277 : aggOf Tryz.prog 277 = some true := by kernel_rfl
theorem zero_277 : zeroOf Tryz.prog 277 = some [.int .u64 0] := by kernel_rfl
theorem bytes_277 : bytesOf Tryz.prog 277 = some 8 := by kernel_rfl
theorem field_277x0 : fieldOf Tryz.prog 277 0 = some (275, 0) := by kernel_rfl
theorem field_277x1 : fieldOf Tryz.prog 277 1 = some (276, 0) := by kernel_rfl
theorem field_277x2 : fieldOf Tryz.prog 277 2 = some (97, 0) := by kernel_rfl
theorem places_277 : placesOf Tryz.prog 277 = some [(0, 0), (0, 0), (0, 1)] := by kernel_rfl
attribute [simp] sz_277 agg_277 zero_277 bytes_277 field_277x0 field_277x1 field_277x2 places_277
theorem sz_278 : szOf Tryz.prog 278 = some 1 := by kernel_rfl
theorem agg_278 : aggOf Tryz.prog 278 = some true := by kernel_rfl
theorem zero_278 : zeroOf Tryz.prog 278 = some [.int .u64 0] := by kernel_rfl
theorem bytes_278 : bytesOf Tryz.prog 278 = some 8 := by kernel_rfl
theorem field_278x0 : fieldOf Tryz.prog 278 0 = some (275, 0) := by kernel_rfl
theorem field_278x1 : fieldOf Tryz.prog 278 1 = some (276, 0) := by kernel_rfl
theorem field_278x2 : fieldOf Tryz.prog 278 2 = some (97, 0) := by kernel_rfl
theorem places_278 : placesOf Tryz.prog 278 = some [(0, 0), (0, 0), (0, 1)] := by kernel_rfl
attribute [simp] sz_278 agg_278 zero_278 bytes_278 field_278x0 field_278x1 field_278x2 places_278
theorem sz_279 : szOf Tryz.prog 279 = some 1 := by kernel_rfl
theorem agg_279 : aggOf Tryz.prog 279 = some false := by kernel_rfl
theorem zero_279 : zeroOf Tryz.prog 279 = some [.int .u32 0] := by kernel_rfl
theorem bytes_279 : bytesOf Tryz.prog 279 = some 4 := by kernel_rfl
theorem int_279 : intOfT Tryz.prog 279 = some .u32 := by kernel_rfl
theorem und_279 : (Tryz.prog.underlying 279).isSome = true := by kernel_rfl
attribute [simp] sz_279 agg_279 zero_279 bytes_279 int_279 und_279
theorem sz_280 : szOf Tryz.prog 280 = some 2 := by kernel_rfl
theorem agg_280 : aggOf Tryz.prog 280 = some true := by kernel_rfl
theorem zero_280 : zeroOf Tryz.prog 280 = some [.int .u64 0, .int .u32 0] := by kernel_rfl
theorem bytes_280 : bytesOf Tryz.prog 280 = some 16 := by kernel_rfl
theorem field_280x0 : fieldOf Tryz.prog 280 0 = some (274, 0) := by kernel_rfl
theorem field_280x1 : fieldOf Tryz.prog 280 1 = some (278, 0) := by kernel_rfl
theorem field_280x2 : fieldOf Tryz.prog 280 2 = some (279, 1) := by kernel_rfl
theorem places_280 : placesOf Tryz.prog 280 = some [(0, 0), (0, 1), (1, 1)] := by kernel_rfl
attribute [simp] sz_280 agg_280 zero_280 bytes_280 field_280x0 field_280x1 field_280x2 places_280
theorem sz_281 : szOf Tryz.prog 281 = some 2 := by kernel_rfl
theorem agg_281 : aggOf Tryz.prog 281 = some true := by kernel_rfl
theorem zero_281 : zeroOf Tryz.prog 281 = some [.int .u64 0, .int .u32 0] := by kernel_rfl
theorem bytes_281 : bytesOf Tryz.prog 281 = some 16 := by kernel_rfl
theorem field_281x0 : fieldOf Tryz.prog 281 0 = some (274, 0) := by kernel_rfl
theorem field_281x1 : fieldOf Tryz.prog 281 1 = some (278, 0) := by kernel_rfl
theorem field_281x2 : fieldOf Tryz.prog 281 2 = some (279, 1) := by kernel_rfl
theorem places_281 : placesOf Tryz.prog 281 = some [(0, 0), (0, 1), (1, 1)] := by kernel_rfl
attribute [simp] sz_281 agg_281 zero_281 bytes_281 field_281x0 field_281x1 field_281x2 places_281
theorem sz_282 : szOf Tryz.prog 282 = some 1 := by kernel_rfl
theorem agg_282 : aggOf Tryz.prog 282 = some false := by kernel_rfl
theorem zero_282 : zeroOf Tryz.prog 282 = some [.nilFunc] := by kernel_rfl
theorem bytes_282 : bytesOf Tryz.prog 282 = some 8 := by kernel_rfl
attribute [simp] sz_282 agg_282 zero_282 bytes_282
theorem sz_283 : szOf Tryz.prog 283 = some 1 := by kernel_rfl
theorem agg_283 : aggOf Tryz.prog 283 = some false := by kernel_rfl
theorem zero_283 : zeroOf Tryz.prog 283 = some [.nilFunc] := by kernel_rfl
theorem bytes_283 : bytesOf Tryz.prog 283 = some 8 := by kernel_rfl
attribute [simp] sz_283 agg_283 zero_283 bytes_283
theorem sz_284 : szOf Tryz.prog 284 = some 1 := by kernel_rfl
theorem agg_284 : aggOf Tryz.prog 284 = some false := by kernel_rfl
theorem zero_284 : zeroOf Tryz.prog 284 = some [.nilFunc] := by kernel_rfl
theorem bytes_284 : bytesOf Tryz.prog 284 = some 8 := by kernel_rfl
attribute [simp] sz_284 agg_284 zero_284 bytes_284
theorem sz_285 : szOf Tryz.prog 285 = some 1 := by kernel_rfl
theorem agg_285 : aggOf Tryz.prog 285 = some false := by kernel_rfl
theorem zero_285 : zeroOf Tryz.prog 285 = some [.nilFunc] := by kernel_rfl
theorem bytes_285 : bytesOf Tryz.prog 285 = some 8 := by kernel_rfl
attribute [simp] sz_285 agg_285 zero_285 bytes_285
theorem sz_286 : szOf Tryz.prog 286 = some 3 := by kernel_rfl
theorem agg_286 : aggOf Tryz.prog 286 = some true := by kernel_rfl
theorem zero_286 : zeroOf Tryz.prog 286 = some [.slice none 0 0, .slice none 0 0, .map none] := by kernel_rfl
theorem bytes_286 : bytesOf Tryz.prog 286 = some 56 := by kernel_rfl
theorem field_286x0 : fieldOf Tryz.prog 286 0 = some (197, 0) := by kernel_rfl
theorem field_286x1 : fieldOf Tryz.prog 286 1 = some (22, 1) := by kernel_rfl
theorem field_286x2 : fieldOf Tryz.prog 286 2 = some (238, 2) := by kernel_rfl
theorem places_286 : placesOf Tryz.prog 286 = some [(0, 1), (1, 1), (2, 1)] := by kernel_rfl
attribute [simp] sz_286 agg_286 zero_286 bytes_286 field_286x0 field_286x1 field_286x2 places_286
theorem sz_287 : szOf Tryz.prog 287 = some 3 := by kernel_rfl
theorem agg_287 : aggOf Tryz.prog 287 = some true := by kernel_rfl
theorem zero_287 : zeroOf Tryz.prog 287 = some [.slice none 0 0, .slice none 0 0, .map none] := by kernel_rfl
theorem bytes_287 : bytesOf Tryz.prog 287 = some 56 := by kernel_rfl
theorem field_287x0 : fieldOf Tryz.prog 287 0 = some (197, 0) := by kernel_rfl
theorem field_287x1 : fieldOf Tryz.prog 287 1 = some (22, 1) := by kernel_rfl
theorem field_287x2 : fieldOf Tryz.prog 287 2 = some (238, 2) := by kernel_rfl
theorem places_287 : placesOf Tryz.prog 287 = some [(0, 1), (1, 1), (2, 1)] := by kernel_rfl
attribute [simp] sz_287 agg_287 zero_287 bytes_287 field_287x0 field_287x1 field_287x2 places_287
theorem sz_288 : szOf Tryz.prog 288 = some 1 := by kernel_rfl
theorem agg_288 : aggOf Tryz.prog 288 = some false := by kernel_rfl
theorem zero_288 : zeroOf Tryz.prog 288 = some [.nilFunc] := by kernel_rfl
theorem bytes_288 : bytesOf Tryz.prog 288 = some 8 := by kernel_rfl
attribute [simp] sz_288 agg_288 zero_288 bytes_288
theorem sz_289 : szOf Tryz.prog 289 = some 1 := by kernel_rfl
theorem agg_289 : aggOf Tryz.prog 289 = some false := by kernel_rfl
theorem zero_289 : zeroOf Tryz.prog 289 = some [.nilFunc] := by kernel_rfl
theorem bytes_289 : bytesOf Tryz.prog 289 = some 8 := by kernel_rfl
attribute [simp] sz_289 agg_289 zero_289 bytes_289
theorem sz_290 : szOf Tryz.prog 290 = some 1 := by kernel_rfl
theorem agg_290 : aggOf Tryz.prog 290 = some false := by kernel_rfl
theorem zero_290 : zeroOf Tryz.prog 290 = some [.nilFunc] := by kernel_rfl
theorem bytes_290 : bytesOf Tryz.prog 290 = some 8 := by kernel_rfl
attribute [simp] sz_290 agg_290 zero_290 bytes_290
theorem sz_291 : szOf Tryz.prog 291 = some 1 := by kernel_rfl
theorem agg_291 : aggOf Tryz.prog 291 = some false := by kernel_rfl
theorem zero_291 : zeroOf Tryz.prog 291 = some [.int .i64 0] := by kernel_rfl
theorem bytes_291 : bytesOf Tryz.prog 291 = some 8 := by kernel_rfl
theorem int_291 : intOfT Tryz.prog 291 = some .i64 := by kernel_rfl
theorem und_291 : (Tryz.prog.underlying 291).isSome = true := by kernel_rfl
attribute [simp] sz_291 agg_291 zero_291 bytes_291 int_291 und_291
theorem sz_293 : szOf Tryz.prog 293 = some 1 := by kernel_rfl
theorem agg_293 : aggOf Tryz.prog 293 = some false := by kernel_rfl
theorem zero_293 : zeroOf Tryz.prog 293 = some [.nilFunc] := by kernel_rfl
theorem bytes_293 : bytesOf Tryz.prog 293 = some 8 := by kernel_rfl
attribute [simp] sz_293 agg_293 zero_293 bytes_293
theorem sz_294 : szOf Tryz.prog 294 = some 1 := by kernel_rfl
theorem agg_294 : aggOf Tryz.prog 294 = some false := by kernel_rfl
theorem zero_294 : zeroOf Tryz.prog 294 = some [.nilFunc] := by kernel_rfl
theorem bytes_294 : bytesOf Tryz.prog 294 = some 8 := by kernel_rfl
attribute [simp] sz_294 agg_294 zero_294 bytes_294
theorem sz_295 : szOf Tryz.prog 295 = some 1 := by kernel_rfl
theorem agg_295 : aggOf Tryz.prog 295 = some false := by kernel_rfl
theorem zero_295 : zeroOf Tryz.prog 295 = some [.nilFunc] := by kernel_rfl
theorem bytes_295 : bytesOf Tryz.prog 295 = some 8 := by kernel_rfl
attribute [simp] sz_295 agg_295 zero_295 bytes_295
theorem sz_296 : szOf Tryz.prog 296 = some 1 := by kernel_rfl
theorem agg_296 : aggOf Tryz.prog 296 = some false := by kernel_rfl
theorem zero_296 : zeroOf Tryz.prog 296 = some [.nilFunc] := by kernel_rfl
theorem bytes_296 : bytesOf Tryz.prog 296 = some 8 := by kernel_rfl
attribute [simp] sz_296 agg_296 zero_296 bytes_296
theorem sz_297 : szOf Tryz.prog 297 = some 1 := by kernel_rfl
theorem agg_297 : aggOf Tryz.prog 297 = some false := by kernel_rfl
theorem zero_297 : zeroOf Tryz.prog 297 = some [.nilFunc] := by kernel_rfl
theorem bytes_297 : bytesOf Tryz.prog 297 = some 8 := by kernel_rfl
attribute [simp] sz_297 agg_297 zero_297 bytes_297
theorem sz_298 : szOf Tryz.prog 298 = some 1 := by kernel_rfl
theorem agg_298 : aggOf Tryz.prog 298 = some false := by kernel_rfl
theorem zero_298 : zeroOf Tryz.prog 298 = some [.nilFunc] := by kernel_rfl
theorem bytes_298 : bytesOf Tryz.prog 298 = some 8 := by kernel_rfl
attribute [simp] sz_298 agg_298 zero_298 bytes_298
theorem sz_299 : szOf Tryz.prog 299 = some 1 := by kernel_rfl
theorem agg_299 : aggOf Tryz.prog 299 = some false := by kernel_rfl
theorem zero_299 : zeroOf Tryz.prog 299 = some [.nilFunc] := by kernel_rfl
theorem bytes_299 : bytesOf Tryz.prog 299 = some 8 := by kernel_rfl
attribute [simp] sz_299 agg_299 zero_299 bytes_299
theorem sz_300 : szOf Tryz.prog 300 = some 1 := by kernel_rfl
theorem agg_300 : aggOf Tryz.prog 300 = some false := by kernel_rfl
theorem zero_300 : zeroOf Tryz.prog 300 = some [.nilFunc] := by kernel_rfl
theorem bytes_300 : bytesOf Tryz.prog 300 = some 8 := by kernel_rfl
attribute [simp] sz_300 agg_300 zero_300 bytes_300
theorem sz_301 : szOf Tryz.prog 301 = some 1 := by kernel_rfl
theorem agg_301 : aggOf Tryz.prog 301 = some false := by kernel_rfl
theorem zero_301 : zeroOf Tryz.prog 301 = some [.nilFunc] := by kernel_rfl
theorem bytes_301 : bytesOf Tryz.prog 301 = some 8 := by kernel_rfl
attribute [simp] sz_301 agg_301 zero_301 bytes_301
theorem sz_303 : szOf Tryz.prog 303 = some 1 := by kernel_rfl
theorem agg_303 : aggOf Tryz.prog 303 = some false := by kernel_rfl
theorem zero_303 : zeroOf Tryz.prog 303 = some [.nilFunc] := by kernel_rfl
theorem bytes_303 : bytesOf Tryz.prog 303 = some 8 := by kernel_rfl
attribute [simp] sz_303 agg_303 zero_303 bytes_303
theorem sz_304 : szOf Tryz.prog 304 = some 1 := by kernel_rfl
theorem agg_304 : aggOf Tryz.prog 304 = some false := by kernel_rfl
theorem zero_304 : zeroOf Tryz.prog 304 = some [.nilFunc] := by kernel_rfl
theorem bytes_304 : bytesOf Tryz.prog 304 = some 8 := by kernel_rfl
attribute [simp] sz_304 agg_304 zero_304 bytes_304
theorem sz_305 : szOf Tryz.prog 305 = some 1 := by kernel_rfl
theorem agg_305 : aggOf Tryz.prog 305 = some false := by kernel_rfl
theorem zero_305 : zeroOf Tryz.prog 305 = some [.nilFunc] := by kernel_rfl
theorem bytes_305 : bytesOf Tryz.prog 305 = some 8 := by kernel_rfl
attribute [simp] sz_305 agg_305 zero_305 bytes_305
theorem sz_306 : szOf Tryz.prog 306 = some 1 := by kernel_rfl
theorem agg_306 : aggOf Tryz.prog 306 = some false := by kernel_rfl
theorem zero_306 : zeroOf Tryz.prog 306 = some [.nilFunc] := by kernel_rfl
theorem bytes_306 : bytesOf Tryz.prog 306 = some 8 := by kernel_rfl
attribute [simp] sz_306 agg_306 zero_306 bytes_306
theorem sz_307 : szOf Tryz.prog 307 = some 1 := by kernel_rfl
theorem agg_307 : aggOf Tryz.prog 307 = some false := by kernel_rfl
theorem zero_307 : zeroOf Tryz.prog 307 = some [.nilFunc] := by kernel_rfl
theorem bytes_307 : bytesOf Tryz.prog 307 = some 8 := by kernel_rfl
attribute [simp] sz_307 agg_307 zero_307 bytes_307
theorem sz_308 : szOf Tryz.prog 308 = some 1 := by kernel_rfl
theorem agg_308 : aggOf Tryz.prog 308 = some false := by kernel_rfl
theorem zero_308 : zeroOf Tryz.prog 308 = some [.nilFunc] := by kernel_rfl
theorem bytes_308 : bytesOf Tryz.prog 308 = some 8 := by kernel_rfl
attribute [simp] sz_308 agg_308 zero_308 bytes_308
theorem sz_309 : szOf Tryz.prog 309 = some 1 := by kernel_rfl
theorem agg_309 : aggOf Tryz.prog 309 = some false := by kernel_rfl
theorem zero_309 : zeroOf Tryz.prog 309 = some [.nilFunc] := by kernel_rfl
theorem bytes_309 : bytesOf Tryz.prog 309 = some 8 := by kernel_rfl
attribute [simp] sz_309 agg_309 zero_309 bytes_309
theorem sz_310 : szOf Tryz.prog 310 = some 1 := by kernel_rfl
theorem agg_310 : aggOf Tryz.prog 310 = some false := by kernel_rfl
theorem zero_310 : zeroOf Tryz.prog 310 = some [.nilFunc] := by kernel_rfl
theorem bytes_310 : bytesOf Tryz.prog 310 = some 8 := by kernel_rfl
attribute [simp] sz_310 agg_310 zero_310 bytes_310
theorem sz_311 : szOf Tryz.prog 311 = some 1 := by kernel_rfl
theorem agg_311 : aggOf Tryz.prog 311 = some false := by kernel_rfl
theorem zero_311 : zeroOf Tryz.prog 311 = some [.nilFunc] := by kernel_rfl
theorem bytes_311 : bytesOf Tryz.prog 311 = some 8 := by kernel_rfl
attribute [simp] sz_311 agg_311 zero_311 bytes_311
theorem sz_312 : szOf Tryz.prog 312 = some 1 := by kernel_rfl
theorem agg_312 : aggOf Tryz.prog 312 = some false := by kernel_rfl
theorem zero_312 : zeroOf Tryz.prog 312 = some [.nilFunc] := by kernel_rfl
theorem bytes_312 : bytesOf Tryz.prog 312 = some 8 := by kernel_rfl
attribute [simp] sz_312 agg_312 zero_312 bytes_312
theorem sz_313 : szOf Tryz.prog 313 = some 1 := by kernel_rfl
theorem agg_313 : aggOf Tryz.prog 313 = some false := by kernel_rfl
theorem zero_313 : zeroOf Tryz.prog 313 = some [.nilFunc] := by kernel_rfl
theorem bytes_313 : bytesOf Tryz.prog 313 = some 8 := by kernel_rfl
attribute [simp] sz_313 agg_313 zero_313 bytes_313
theorem sz_314 : szOf Tryz.prog 314 = some 1 := by kernel_rfl
theorem agg_314 : aggOf Tryz.prog 314 = some false := by kernel_rfl
theorem zero_314 : zeroOf Tryz.prog 314 = some [.nilFunc] := by kernel_rfl
theorem bytes_314 : bytesOf Tryz.prog 314 = some 8 := by kernel_rfl
attribute [simp] sz_314 agg_314 zero_314 bytes_314
theorem sz_315 : szOf Tryz.prog 315 = some 1 := by kernel_rfl
theorem agg_315 : aggOf Tryz.prog 315 = some false := by kernel_rfl
theorem zero_315 : zeroOf Tryz.prog 315 = some [.nilFunc] := by kernel_rfl
theorem bytes_315 : bytesOf Tryz.prog 315 = some 8 := by kernel_rfl
attribute [simp] sz_315 agg_315 zero_315 bytes_315
theorem sz_316 : szOf Tryz.prog 316 = some 1 := by kernel_rfl
theorem agg_316 : aggOf Tryz.prog 316 = some false := by kernel_rfl
theorem zero_316 : zeroOf Tryz.prog 316 = some [.slice none 0 0] := by kernel_rfl
theorem bytes_316 : bytesOf Tryz.prog 316 = some 24 := by kernel_rfl
theorem elem_316 : elemOf Tryz.prog 316 = some 319 := by kernel_rfl
attribute [simp] sz_316 agg_316 zero_316 bytes_316 elem_316
theorem sz_317 : szOf Tryz.prog 317 = some 1 := by kernel_rfl
theorem agg_317 : aggOf Tryz.prog 317 = some false := by kernel_rfl
theorem zero_317 : zeroOf Tryz.prog 317 = some [.nilFunc] := by kernel_rfl
theorem bytes_317 : bytesOf Tryz.prog 317 = some 8 := by kernel_rfl
attribute [simp] sz_317 agg_317 zero_317 bytes_317
theorem sz_318 : szOf Tryz.prog 318 = some 4 := by kernel_rfl
theorem agg_318 : aggOf Tryz.prog 318 = some true := by kernel_rfl
theorem zero_318 : zeroOf Tryz.prog 318 = some [.int .i64 0, .int .i64 0, .int .i64 0, .slice none 0 0] := by kernel_rfl
theorem bytes_318 : bytesOf Tryz.prog 318 = some 48 := by kernel_rfl
theorem field_318x0 : fieldOf Tryz.prog 318 0 = some (3, 0) := by kernel_rfl
theorem field_318x1 : fieldOf Tryz.prog 318 1 = some (55, 1) := by kernel_rfl
theorem places_318 : placesOf Tryz.prog 318 = some [(0, 1), (1, 3)] := by kernel_rfl
attribute [simp] sz_318 agg_318 zero_318 bytes_318 field_318x0 field_318x1 places_318
theorem sz_319 : szOf Tryz.prog 319 = some 4 := by kernel_rfl
theorem agg_319 : aggOf Tryz.prog 319 = some true := by kernel_rfl
theorem zero_319 : zeroOf Tryz.prog 319 = some [.int .i64 0, .int .i64 0, .int .i64 0, .slice none 0 0] := by kernel_rfl
theorem bytes_319 : bytesOf Tryz.prog 319 = some 48 := by kernel_rfl
theorem field_319x0 : fieldOf Tryz.prog 319 0 = some (3, 0) := by kernel_rfl
theorem field_319x1 : fieldOf Tryz.prog 319 1 = some (55, 1) := by kernel_rfl
theorem places_319 : placesOf Tryz.prog 319 = some [(0, 1), (1, 3)] := by kernel_rfl
attribute [simp] sz_319 agg_319 zero_319 bytes_319 field_319x0 field_319x1 places_319
theorem sz_320 : szOf Tryz.prog 320 = some 1 := by kernel_rfl
theorem agg_320 : aggOf Tryz.prog 320 = some false := by kernel_rfl
theorem zero_320 : zeroOf Tryz.prog 320 = some [.nilFunc] := by kernel_rfl
theorem bytes_320 : bytesOf Tryz.prog 320 = some 8 := by kernel_rfl
attribute [simp] sz_320 agg_320 zero_320 bytes_320
theorem sz_321 : szOf Tryz.prog 321 = some 1 := by kernel_rfl
theorem agg_321 : aggOf Tryz.prog 321 = some false := by kernel_rfl
theorem zero_321 : zeroOf Tryz.prog 321 = some [.nilFunc] := by kernel_rfl
theorem bytes_321 : bytesOf Tryz.prog 321 = some 8 := by kernel_rfl
attribute [simp] sz_321 agg_321 zero_321 bytes_321
theorem sz_322 : szOf Tryz.prog 322 = some 1 := by kernel_rfl
theorem agg_322 : aggOf Tryz.prog 322 = some false := by kernel_rfl
theorem zero_322 : zeroOf Tryz.prog 322 = some [.nilFunc] := by kernel_rfl
theorem bytes_322 : bytesOf Tryz.prog 322 = some 8 := by kernel_rfl
attribute [simp] sz_322 agg_322 zero_322 bytes_322
theorem sz_323 : szOf Tryz.prog 323 = some 1 := by kernel_rfl
theorem agg_323 : aggOf Tryz.prog 323 = some false := by kernel_rfl
theorem zero_323 : zeroOf Tryz.prog 323 = some [.nilFunc] := by kernel_rfl
theorem bytes_323 : bytesOf Tryz.prog 323 = some 8 := by kernel_rfl
attribute [simp] sz_323 agg_323 zero_323 bytes_323
theorem sz_324 : szOf Tryz.prog 324 = some 1 := by kernel_rfl
theorem agg_324 : aggOf Tryz.prog 324 = some false := by kernel_rfl
theorem zero_324 : zeroOf Tryz.prog 324 = some [.nilFunc] := by kernel_rfl
theorem bytes_324 : bytesOf Tryz.prog 324 = some 8 := by kernel_rfl
attribute [simp] sz_324 agg_324 zero_324 bytes_324
theorem sz_325 : szOf Tryz.prog 325 = some 1 := by kernel_rfl
theorem agg_325 : aggOf Tryz.prog 325 = some false := by kernel_rfl
theorem zero_325 : zeroOf Tryz.prog 325 = some [.nilFunc] := by kernel_rfl
theorem bytes_325 : bytesOf Tryz.prog 325 = some 8 := by kernel_rfl
attribute [simp] sz_325 agg_325 zero_325 bytes_325
theorem sz_326 : szOf Tryz.prog 326 = some 1 := by kernel_rfl
theorem agg_326 : aggOf Tryz.prog 326 = some false := by kernel_rfl
theorem zero_326 : zeroOf Tryz.prog 326 = some [.nilFunc] := by kernel_rfl
theorem bytes_326 : bytesOf Tryz.prog 326 = some 8 := by kernel_rfl
attribute [simp] sz_326 agg_326 zero_326 bytes_326
theorem sz_327 : szOf Tryz.prog 327 = some 1 := by kernel_rfl
theorem agg_327 : aggOf Tryz.prog 327 = some false := by kernel_rfl
theorem zero_327 : zeroOf Tryz.prog 327 = some [.nilFunc] := by kernel_rfl
theorem bytes_327 : bytesOf Tryz.prog 327 = some 8 := by kernel_rfl
attribute [simp] sz_327 agg_327 zero_327 bytes_327
theorem sz_328 : szOf Tryz.prog 328 = some 1 := by kernel_rfl
theorem agg_328 : aggOf Tryz.prog 328 = some false := by kernel_rfl
theorem zero_328 : zeroOf Tryz.prog 328 = some [.pointer none] := by kernel_rfl
theorem bytes_328 : bytesOf Tryz.prog 328 = some 8 := by kernel_rfl
theorem ptr_328 : isPtr Tryz.prog 328 = true := by kernel_rfl
attribute [simp] sz_328 agg_328 zero_328 bytes_328 ptr_328
theorem sz_329 : szOf Tryz.prog 329 = some 1 := by kernel_rfl
theorem agg_329 : aggOf Tryz.prog 329 = some false := by kernel_rfl
theorem zero_329 : zeroOf Tryz.prog 329 = some [.nilFunc] := by kernel_rfl
theorem bytes_329 : bytesOf Tryz.prog 329 = some 8 := by kernel_rfl
attribute [simp] sz_329 agg_329 zero_329 bytes_329
theorem sz_330 : szOf Tryz.prog 330 = some 1 := by kernel_rfl
theorem agg_330 : aggOf Tryz.prog 330 = some false := by kernel_rfl
theorem zero_330 : zeroOf Tryz.prog 330 = some [.pointer none] := by kernel_rfl
theorem bytes_330 : bytesOf Tryz.prog 330 = some 8 := by kernel_rfl
attribute [simp] sz_330 agg_330 zero_330 bytes_330
theorem sz_331 : szOf Tryz.prog 331 = some 1 := by kernel_rfl
theorem agg_331 : aggOf Tryz.prog 331 = some false := by kernel_rfl
theorem zero_331 : zeroOf Tryz.prog 331 = some [.int .i64 0] := by kernel_rfl
theorem bytes_331 : bytesOf Tryz.prog 331 = some 8 := by kernel_rfl
theorem int_331 : intOfT Tryz.prog 331 = some .i64 := by kernel_rfl
theorem und_331 : (Tryz.prog.underlying 331).isSome = true := by kernel_rfl
attribute [simp] sz_331 agg_331 zero_331 bytes_331 int_331 und_331
theorem sz_332 : szOf Tryz.prog 332 = some 1 := by kernel_rfl
theorem agg_332 : aggOf Tryz.prog 332 = some false := by kernel_rfl
theorem zero_332 : zeroOf Tryz.prog 332 = some [.nilFunc] := by kernel_rfl
theorem bytes_332 : bytesOf Tryz.prog 332 = some 8 := by kernel_rfl
attribute [simp] sz_332 agg_332 zero_332 bytes_332
theorem sz_333 : szOf Tryz.prog 333 = some 1 := by kernel_rfl
theorem agg_333 : aggOf Tryz.prog 333 = some false := by kernel_rfl
theorem zero_333 : zeroOf Tryz.prog 333 = some [.pointer none] := by kernel_rfl
theorem bytes_333 : bytesOf Tryz.prog 333 = some 8 := by kernel_rfl
theorem ptr_333 : isPtr Tryz.prog 333 = true := by kernel_rfl
attribute [simp] sz_333 agg_333 zero_333 bytes_333 ptr_333
theorem sz_334 : szOf Tryz.prog 334 = some 1 := by kernel_rfl
theorem agg_334 : aggOf Tryz.prog 334 = some false := by kernel_rfl
theorem zero_334 : zeroOf Tryz.prog 334 = some [.nilFunc] := by kernel_rfl
theorem bytes_334 : bytesOf Tryz.prog 334 = some 8 := by kernel_rfl
attribute [simp] sz_334 agg_334 zero_334 bytes_334
theorem sz_335 : szOf Tryz.prog 335 = some 1 := by kernel_rfl
theorem agg_335 : aggOf Tryz.prog 335 = some false := by kernel_rfl
theorem zero_335 : zeroOf Tryz.prog 335 = some [.nilFunc] := by kernel_rfl
theorem bytes_335 : bytesOf Tryz.prog 335 = some 8 := by kernel_rfl
attribute [simp] sz_335 agg_335 zero_335 bytes_335
theorem sz_336 : szOf Tryz.prog 336 = some 1 := by kernel_rfl
theorem agg_336 : aggOf Tryz.prog 336 = some false := by kernel_rfl
theorem zero_336 : zeroOf Tryz.prog 336 = some [.nilFunc] := by kernel_rfl
theorem bytes_336 : bytesOf Tryz.prog 336 = some 8 := by kernel_rfl
attribute [simp] sz_336 agg_336 zero_336 bytes_336
theorem sz_337 : szOf Tryz.prog 337 = some 1 := by kernel_rfl
theorem agg_337 : aggOf Tryz.prog 337 = some false := by kernel_rfl
theorem zero_337 : zeroOf Tryz.prog 337 = some [.nilFunc] := by kernel_rfl
theorem bytes_337 : bytesOf Tryz.prog 337 = some 8 := by kernel_rfl
attribute [simp] sz_337 agg_337 zero_337 bytes_337
theorem sz_338 : szOf Tryz.prog 338 = some 1 := by kernel_rfl
theorem agg_338 : aggOf Tryz.prog 338 = some false := by kernel_rfl
theorem zero_338 : zeroOf Tryz.prog 338 = some [.nilFunc] := by kernel_rfl
theorem bytes_338 : bytesOf Tryz.prog 338 = some 8 := by kernel_rfl
attribute [simp] sz_338 agg_338 zero_338 bytes_338
theorem sz_339 : szOf Tryz.prog 339 = some 1 := by kernel_rfl
theorem agg_339 : aggOf Tryz.prog 339 = some false := by kernel_rfl
theorem zero_339 : zeroOf Tryz.prog 339 = some [.nilFunc] := by kernel_rfl
theorem bytes_339 : bytesOf Tryz.prog 339 = some 8 := by kernel_rfl
attribute [simp] sz_339 agg_339 zero_339 bytes_339
theorem sz_340 : szOf Tryz.prog 340 = some 1 := by kernel_rfl
theorem agg_340 : aggOf Tryz.prog 340 = some false := by kernel_rfl
theorem zero_340 : zeroOf Tryz.prog 340 = some [.nilFunc] := by kernel_rfl
theorem bytes_340 : bytesOf Tryz.prog 340 = some 8 := by kernel_rfl
attribute [simp] sz_340 agg_340 zero_340 bytes_340
theorem sz_341 : szOf Tryz.prog 341 = some 1 := by kernel_rfl
theorem agg_341 : aggOf Tryz.prog 341 = some false := by kernel_rfl
theorem zero_341 : zeroOf Tryz.prog 341 = some [.nilFunc] := by kernel_rfl
theorem bytes_341 : bytesOf Tryz.prog 341 = some 8 := by kernel_rfl
attribute [simp] sz_341 agg_341 zero_341 bytes_341
theorem sz_342 : szOf Tryz.prog 342 = some 1 := by kernel_rfl
theorem agg_342 : aggOf Tryz.prog 342 = some false := by kernel_rfl
theorem zero_342 : zeroOf Tryz.prog 342 = some [.nilFunc] := by kernel_rfl
theorem bytes_342 : bytesOf Tryz.prog 342 = some 8 := by kernel_rfl
attribute [simp] sz_342 agg_342 zero_342 bytes_342
theorem sz_343 : szOf Tryz.prog 343 = some 1 := by kernel_rfl
theorem agg_343 : aggOf Tryz.prog 343 = some false := by kernel_rfl
theorem zero_343 : zeroOf Tryz.prog 343 = some [.nilFunc] := by kernel_rfl
theorem bytes_343 : bytesOf Tryz.prog 343 = some 8 := by kernel_rfl
attribute [simp] sz_343 agg_343 zero_343 bytes_343
theorem sz_344 : szOf Tryz.prog 344 = some 1 := by kernel_rfl
theorem agg_344 : aggOf Tryz.prog 344 = some false := by kernel_rfl
theorem zero_344 : zeroOf Tryz.prog 344 = some [.nilFunc] := by kernel_rfl
theorem bytes_344 : bytesOf Tryz.prog 344 = some 8 := by kernel_rfl
attribute [simp] sz_344 agg_344 zero_344 bytes_344
theorem sz_345 : szOf Tryz.prog 345 = some 1 := by kernel_rfl
theorem agg_345 : aggOf Tryz.prog 345 = some false := by kernel_rfl
theorem zero_345 : zeroOf Tryz.prog 345 = some [.nilFunc] := by kernel_rfl
theorem bytes_345 : bytesOf Tryz.prog 345 = some 8 := by kernel_rfl
attribute [simp] sz_345 agg_345 zero_345 bytes_345
theorem sz_346 : szOf Tryz.prog 346 = some 1 := by kernel_rfl
theorem agg_346 : aggOf Tryz.prog 346 = some false := by kernel_rfl
theorem zero_346 : zeroOf Tryz.prog 346 = some [.nilFunc] := by kernel_rfl
theorem bytes_346 : bytesOf Tryz.prog 346 = some 8 := by kernel_rfl
attribute [simp] sz_346 agg_346 zero_346 bytes_346
theorem sz_347 : szOf Tryz.prog 347 = some 1 := by kernel_rfl
theorem agg_347 : aggOf Tryz.prog 347 = some false := by kernel_rfl
theorem zero_347 : zeroOf Tryz.prog 347 = some [.nilFunc] := by kernel_rfl
theorem bytes_347 : bytesOf Tryz.prog 347 = some 8 := by kernel_rfl
attribute [simp] sz_347 agg_347 zero_347 bytes_347
theorem sz_348 : szOf Tryz.prog 348 = some 1 := by kernel_rfl
theorem agg_348 : aggOf Tryz.prog 348 = some false := by kernel_rfl
theorem zero_348 : zeroOf Tryz.prog 348 = some [.nilFunc] := by kernel_rfl
theorem bytes_348 : bytesOf Tryz.prog 348 = some 8 := by kernel_rfl
attribute [simp] sz_348 agg_348 zero_348 bytes_348
theorem sz_349 : szOf Tryz.prog 349 = some 1 := by kernel_rfl
theorem agg_349 : aggOf Tryz.prog 349 = some false := by kernel_rfl
theorem zero_349 : zeroOf Tryz.prog 349 = some [.int .u64 0] := by kernel_rfl
theorem bytes_349 : bytesOf Tryz.prog 349 = some 8 := by kernel_rfl
theorem int_349 : intOfT Tryz.prog 349 = some .u64 := by kernel_rfl
theorem und_349 : (Tryz.prog.underlying 349).isSome = true := by kernel_rfl
attribute [simp] sz_349 agg_349 zero_349 bytes_349 int_349 und_349
theorem sz_350 : szOf Tryz.prog 350 = some 1 := by kernel_rfl
theorem agg_350 : aggOf Tryz.prog 350 = some false := by kernel_rfl
theorem zero_350 : zeroOf Tryz.prog 350 = some [.nilFunc] := by kernel_rfl
theorem bytes_350 : bytesOf Tryz.prog 350 = some 8 := by kernel_rfl
attribute [simp] sz_350 agg_350 zero_350 bytes_350
theorem sz_351 : szOf Tryz.prog 351 = some 1 := by kernel_rfl
theorem agg_351 : aggOf Tryz.prog 351 = some false := by kernel_rfl
theorem zero_351 : zeroOf Tryz.prog 351 = some [.nilFunc] := by kernel_rfl
theorem bytes_351 : bytesOf Tryz.prog 351 = some 8 := by kernel_rfl
attribute [simp] sz_351 agg_351 zero_351 bytes_351
theorem sz_352 : szOf Tryz.prog 352 = some 1 := by kernel_rfl
theorem agg_352 : aggOf Tryz.prog 352 = some false := by kernel_rfl
theorem zero_352 : zeroOf Tryz.prog 352 = some [.pointer none] := by kernel_rfl
theorem bytes_352 : bytesOf Tryz.prog 352 = some 8 := by kernel_rfl
theorem ptr_352 : isPtr Tryz.prog 352 = true := by kernel_rfl
attribute [simp] sz_352 agg_352 zero_352 bytes_352 ptr_352
theorem sz_353 : szOf Tryz.prog 353 = some 1 := by kernel_rfl
theorem agg_353 : aggOf Tryz.prog 353 = some false := by kernel_rfl
theorem zero_353 : zeroOf Tryz.prog 353 = some [.nilFunc] := by kernel_rfl
theorem bytes_353 : bytesOf Tryz.prog 353 = some 8 := by kernel_rfl
attribute [simp] sz_353 agg_353 zero_353 bytes_353
theorem sz_354 : szOf Tryz.prog 354 = some 1 := by kernel_rfl
theorem agg_354 : aggOf Tryz.prog 354 = some false := by kernel_rfl
theorem zero_354 : zeroOf Tryz.prog 354 = some [.nilFunc] := by kernel_rfl
theorem bytes_354 : bytesOf Tryz.prog 354 = some 8 := by kernel_rfl
attribute [simp] sz_354 agg_354 zero_354 bytes_354
theorem sz_355 : szOf Tryz.prog 355 = some 1 := by kernel_rfl
theorem agg_355 : aggOf Tryz.prog 355 = some false := by kernel_rfl
theorem zero_355 : zeroOf Tryz.prog 355 = some [.nilFunc] := by kernel_rfl
theorem bytes_355 : bytesOf Tryz.prog 355 = some 8 := by kernel_rfl
attribute [simp] sz_355 agg_355 zero_355 bytes_355
theorem sz_356 : szOf Tryz.prog 356 = some 1 := by kernel_rfl
theorem agg_356 : aggOf Tryz.prog 356 = some false := by kernel_rfl
theorem zero_356 : zeroOf Tryz.prog 356 = some [.nilFunc] := by kernel_rfl
theorem bytes_356 : bytesOf Tryz.prog 356 = some 8 := by kernel_rfl
attribute [simp] sz_356 agg_356 zero_356 bytes_356
theorem sz_357 : szOf Tryz.prog 357 = some 1 := by kernel_rfl
theorem agg_357 : aggOf Tryz.prog 357 = some false := by kernel_rfl
theorem zero_357 : zeroOf Tryz.prog 357 = some [.nilFunc] := by kernel_rfl
theorem bytes_357 : bytesOf Tryz.prog 357 = some 8 := by kernel_rfl
attribute [simp] sz_357 agg_357 zero_357 bytes_357
theorem sz_358 : szOf Tryz.prog 358 = some 1 := by kernel_rfl
theorem agg_358 : aggOf Tryz.prog 358 = some false := by kernel_rfl
theorem zero_358 : zeroOf Tryz.prog 358 = some [.nilFunc] := by kernel_rfl
theorem bytes_358 : bytesOf Tryz.prog 358 = some 8 := by kernel_rfl
attribute [simp] sz_358 agg_358 zero_358 bytes_358
theorem sz_359 : szOf Tryz.prog 359 = some 1 := by kernel_rfl
theorem agg_359 : aggOf Tryz.prog 359 = some false := by kernel_rfl
theorem zero_359 : zeroOf Tryz.prog 359 = some [.slice none 0 0] := by kernel_rfl
theorem bytes_359 : bytesOf Tryz.prog 359 = some 24 := by kernel_rfl
theorem elem_359 : elemOf Tryz.prog 359 = some 210 := by kernel_rfl
attribute [simp] sz_359 agg_359 zero_359 bytes_359 elem_359
theorem sz_360 : szOf Tryz.prog 360 = some 1 := by kernel_rfl
theorem agg_360 : aggOf Tryz.prog 360 = some false := by kernel_rfl
theorem zero_360 : zeroOf Tryz.prog 360 = some [.nilFunc] := by kernel_rfl
theorem bytes_360 : bytesOf Tryz.prog 360 = some 8 := by kernel_rfl
attribute [simp] sz_360 agg_360 zero_360 bytes_360
theorem sz_361 : szOf Tryz.prog 361 = some 1 := by kernel_rfl
theorem agg_361 : aggOf Tryz.prog 361 = some false := by kernel_rfl
theorem zero_361 : zeroOf Tryz.prog 361 = some [.nilFunc] := by kernel_rfl
theorem bytes_361 : bytesOf Tryz.prog 361 = some 8 := by kernel_rfl
attribute [simp] sz_361 agg_361 zero_361 bytes_361
theorem sz_363 : szOf Tryz.prog 363 = some 1 := by kernel_rfl
theorem agg_363 : aggOf Tryz.prog 363 = some false := by kernel_rfl
theorem zero_363 : zeroOf Tryz.prog 363 = some [.nilFunc] := by kernel_rfl
theorem bytes_363 : bytesOf Tryz.prog 363 = some 8 := by kernel_rfl
attribute [simp] sz_363 agg_363 zero_363 bytes_363
theorem sz_364 : szOf Tryz.prog 364 = some 1 := by kernel_rfl
theorem agg_364 : aggOf Tryz.prog 364 = some false := by kernel_rfl
theorem zero_364 : zeroOf Tryz.prog 364 = some [.pointer none] := by kernel_rfl
theorem bytes_364 : bytesOf Tryz.prog 364 = some 8 := by kernel_rfl
theorem ptr_364 : isPtr Tryz.prog 364 = true := by kernel_rfl
attribute [simp] sz_364 agg_364 zero_364 bytes_364 ptr_364
theorem sz_365 : szOf Tryz.prog 365 = some 1 := by kernel_rfl
theorem agg_365 : aggOf Tryz.prog 365 = some false := by kernel_rfl
theorem zero_365 : zeroOf Tryz.prog 365 = some [.nilFunc] := by kernel_rfl
theorem bytes_365 : bytesOf Tryz.prog 365 = some 8 := by kernel_rfl
attribute [simp] sz_365 agg_365 zero_365 bytes_365
theorem sz_366 : szOf Tryz.prog 366 = some 1 := by kernel_rfl
theorem agg_366 : aggOf Tryz.prog 366 = some false := by kernel_rfl
theorem zero_366 : zeroOf Tryz.prog 366 = some [.pointer none] := by kernel_rfl
theorem bytes_366 : bytesOf Tryz.prog 366 = some 8 := by kernel_rfl
theorem ptr_366 : isPtr Tryz.prog 366 = true := by kernel_rfl
attribute [simp] sz_366 agg_366 zero_366 bytes_366 ptr_366
theorem sz_367 : szOf Tryz.prog 367 = some 1 := by kernel_rfl
theorem agg_367 : aggOf Tryz.prog 367 = some false := by kernel_rfl
theorem zero_367 : zeroOf Tryz.prog 367 = some [.nilFunc] := by kernel_rfl
theorem bytes_367 : bytesOf Tryz.prog 367 = some 8 := by kernel_rfl
attribute [simp] sz_367 agg_367 zero_367 bytes_367
theorem sz_368 : szOf Tryz.prog 368 = some 1 := by kernel_rfl
theorem agg_368 : aggOf Tryz.prog 368 = some false := by kernel_rfl
theorem zero_368 : zeroOf Tryz.prog 368 = some [.nilFunc] := by kernel_rfl
theorem bytes_368 : bytesOf Tryz.prog 368 = some 8 := by kernel_rfl
attribute [simp] sz_368 agg_368 zero_368 bytes_368
theorem sz_369 : szOf Tryz.prog 369 = some 1 := by kernel_rfl
theorem agg_369 : aggOf Tryz.prog 369 = some false := by kernel_rfl
theorem zero_369 : zeroOf Tryz.prog 369 = some [.nilFunc] := by kernel_rfl
theorem bytes_369 : bytesOf Tryz.prog 369 = some 8 := by kernel_rfl
attribute [simp] sz_369 agg_369 zero_369 bytes_369
theorem sz_370 : szOf Tryz.prog 370 = some 1 := by kernel_rfl
theorem agg_370 : aggOf Tryz.prog 370 = some false := by kernel_rfl
theorem zero_370 : zeroOf Tryz.prog 370 = some [.nilFunc] := by kernel_rfl
theorem bytes_370 : bytesOf Tryz.prog 370 = some 8 := by kernel_rfl
attribute [simp] sz_370 agg_370 zero_370 bytes_370
theorem sz_371 : szOf Tryz.prog 371 = some 1 := by kernel_rfl
theorem agg_371 : aggOf Tryz.prog 371 = some false := by kernel_rfl
theorem zero_371 : zeroOf Tryz.prog 371 = some [.nilFunc] := by kernel_rfl
theorem bytes_371 : bytesOf Tryz.prog 371 = some 8 := by kernel_rfl
attribute [simp] sz_371 agg_371 zero_371 bytes_371
theorem sz_372 : szOf Tryz.prog 372 = some 1 := by kernel_rfl
theorem agg_372 : aggOf Tryz.prog 372 = some false := by kernel_rfl
theorem zero_372 : zeroOf Tryz.prog 372 = some [.nilFunc] := by kernel_rfl
theorem bytes_372 : bytesOf Tryz.prog 372 = some 8 := by kernel_rfl
attribute [simp] sz_372 agg_372 zero_372 bytes_372
theorem sz_373 : szOf Tryz.prog 373 = some 1 := by kernel_rfl
theorem agg_373 : aggOf Tryz.prog 373 = some false := by kernel_rfl
theorem zero_373 : zeroOf Tryz.prog 373 = some [.pointer none] := by kernel_rfl
theorem bytes_373 : bytesOf Tryz.prog 373 = some 8 := by kernel_rfl
theorem ptr_373 : isPtr Tryz.prog 373 = true := by kernel_rfl
attribute [simp] sz_373 agg_373 zero_373 bytes_373 ptr_373
theorem sz_375 : szOf Tryz.prog 375 = some 1 := by kernel_rfl
theorem agg_375 : aggOf Tryz.prog 375 = some false := by kernel_rfl
theorem zero_375 : zeroOf Tryz.prog 375 = some [.nilFunc] := by kernel_rfl
theorem bytes_375 : bytesOf Tryz.prog 375 = some 8 := by kernel_rfl
attribute [simp] sz_375 agg_375 zero_375 bytes_375
theorem sz_376 : szOf Tryz.prog 376 = some 1 := by kernel_rfl
theorem agg_376 : aggOf Tryz.prog 376 = some false := by kernel_rfl
theorem zero_376 : zeroOf Tryz.prog 376 = some [.nilFunc] := by kernel_rfl
theorem bytes_376 : bytesOf Tryz.prog 376 = some 8 := by kernel_rfl
attribute [simp] sz_376 agg_376 zero_376 bytes_376
theorem sz_377 : szOf Tryz.prog 377 = some 1 := by kernel_rfl
theorem agg_377 : aggOf Tryz.prog 377 = some false := by kernel_rfl
theorem zero_377 : zeroOf Tryz.prog 377 = some [.nilFunc] := by kernel_rfl
theorem bytes_377 : bytesOf Tryz.prog 377 = some 8 := by kernel_rfl
attribute [simp] sz_377 agg_377 zero_377 bytes_377
theorem sz_378 : szOf Tryz.prog 378 = some 1 := by kernel_rfl
theorem agg_378 : aggOf Tryz.prog 378 = some false := by kernel_rfl
theorem zero_378 : zeroOf Tryz.prog 378 = some [.nilFunc] := by kernel_rfl
theorem bytes_378 : bytesOf Tryz.prog 378 = some 8 := by kernel_rfl
attribute [simp] sz_378 agg_378 zero_378 bytes_378
theorem sz_379 : szOf Tryz.prog 379 = some 1 := by kernel_rfl
theorem agg_379 : aggOf Tryz.prog 379 = some false := by kernel_rfl
theorem zero_379 : zeroOf Tryz.prog 379 = some [.nilFunc] := by kernel_rfl
theorem bytes_379 : bytesOf Tryz.prog 379 = some 8 := by kernel_rfl
attribute [simp] sz_379 agg_379 zero_379 bytes_379
theorem sz_380 : szOf Tryz.prog 380 = some 1 := by kernel_rfl
theorem agg_380 : aggOf Tryz.prog 380 = some false := by kernel_rfl
theorem zero_380 : zeroOf Tryz.prog 380 = some [.nilFunc] := by kernel_rfl
theorem bytes_380 : bytesOf Tryz.prog 380 = some 8 := by kernel_rfl
attribute [simp] sz_380 agg_380 zero_380 bytes_380
theorem sz_381 : szOf Tryz.prog 381 = some 1 := by kernel_rfl
theorem agg_381 : aggOf Tryz.prog 381 = some false := by kernel_rfl
theorem zero_381 : zeroOf Tryz.prog 381 = some [.nilFunc] := by kernel_rfl
theorem bytes_381 : bytesOf Tryz.prog 381 = some 8 := by kernel_rfl
attribute [simp] sz_381 agg_381 zero_381 bytes_381
theorem sz_382 : szOf Tryz.prog 382 = some 1 := by kernel_rfl
theorem agg_382 : aggOf Tryz.prog 382 = some false := by kernel_rfl
theorem zero_382 : zeroOf Tryz.prog 382 = some [.nilFunc] := by kernel_rfl
theorem bytes_382 : bytesOf Tryz.prog 382 = some 8 := by kernel_rfl
attribute [simp] sz_382 agg_382 zero_382 bytes_382
theorem sz_384 : szOf Tryz.prog 384 = some 1 := by kernel_rfl
theorem agg_384 : aggOf Tryz.prog 384 = some false := by kernel_rfl
theorem zero_384 : zeroOf Tryz.prog 384 = some [.nilFunc] := by kernel_rfl
theorem bytes_384 : bytesOf Tryz.prog 384 = some 8 := by kernel_rfl
attribute [simp] sz_384 agg_384 zero_384 bytes_384
theorem sz_385 : szOf Tryz.prog 385 = some 1 := by kernel_rfl
theorem agg_385 : aggOf Tryz.prog 385 = some false := by kernel_rfl
theorem zero_385 : zeroOf Tryz.prog 385 = some [.nilFunc] := by kernel_rfl
theorem bytes_385 : bytesOf Tryz.prog 385 = some 8 := by kernel_rfl
attribute [simp] sz_385 agg_385 zero_385 bytes_385
theorem sz_386 : szOf Tryz.prog 386 = some 1 := by kernel_rfl
theorem agg_386 : aggOf Tryz.prog 386 = some false := by kernel_rfl
theorem zero_386 : zeroOf Tryz.prog 386 = some [.nilFunc] := by kernel_rfl
theorem bytes_386 : bytesOf Tryz.prog 386 = some 8 := by kernel_rfl
attribute [simp] sz_386 agg_386 zero_386 bytes_386
theorem sz_387 : szOf Tryz.prog 387 = some 1 := by kernel_rfl
theorem agg_387 : aggOf Tryz.prog 387 = some false := by kernel_rfl
theorem zero_387 : zeroOf Tryz.prog 387 = some [.nilFunc] := by kernel_rfl
theorem bytes_387 : bytesOf Tryz.prog 387 = some 8 := by kernel_rfl
attribute [simp] sz_387 agg_387 zero_387 bytes_387
theorem sz_389 : szOf Tryz.prog 389 = some 1 := by kernel_rfl
theorem agg_389 : aggOf Tryz.prog 389 = some false := by kernel_rfl
theorem zero_389 : zeroOf Tryz.prog 389 = some [.nilFunc] := by kernel_rfl
theorem bytes_389 : bytesOf Tryz.prog 389 = some 8 := by kernel_rfl
attribute [simp] sz_389 agg_389 zero_389 bytes_389
theorem sz_390 : szOf Tryz.prog 390 = some 1 := by kernel_rfl
theorem agg_390 : aggOf Tryz.prog 390 = some false := by kernel_rfl
theorem zero_390 : zeroOf Tryz.prog 390 = some [.nilFunc] := by kernel_rfl
theorem bytes_390 : bytesOf Tryz.prog 390 = some 8 := by kernel_rfl
attribute [simp] sz_390 agg_390 zero_390 bytes_390
theorem sz_391 : szOf Tryz.prog 391 = some 1 := by kernel_rfl
theorem agg_391 : aggOf Tryz.prog 391 = some false := by kernel_rfl
attribute [simp] sz_391 agg_391
theorem sz_392 : szOf Tryz.prog 392 = some 1 := by kernel_rfl
theorem agg_392 : aggOf Tryz.prog 392 = some false := by kernel_rfl
attribute [simp] sz_392 agg_392
theorem sz_393 : szOf Tryz.prog 393 = some 1 := by kernel_rfl
theorem agg_393 : aggOf Tryz.prog 393 = some false := by kernel_rfl
theorem zero_393 : zeroOf Tryz.prog 393 = some [.pointer none] := by kernel_rfl
theorem bytes_393 : bytesOf Tryz.prog 393 = some 8 := by kernel_rfl
theorem ptr_393 : isPtr Tryz.prog 393 = true := by kernel_rfl
attribute [simp] sz_393 agg_393 zero_393 bytes_393 ptr_393
theorem sz_394 : szOf Tryz.prog 394 = some 1 := by kernel_rfl
theorem agg_394 : aggOf Tryz.prog 394 = some false := by kernel_rfl
theorem zero_394 : zeroOf Tryz.prog 394 = some [.nilFunc] := by kernel_rfl
theorem bytes_394 : bytesOf Tryz.prog 394 = some 8 := by kernel_rfl
attribute [simp] sz_394 agg_394 zero_394 bytes_394
theorem sz_395 : szOf Tryz.prog 395 = some 4 := by kernel_rfl
theorem agg_395 : aggOf Tryz.prog 395 = some true := by kernel_rfl
theorem zero_395 : zeroOf Tryz.prog 395 = some [.pointer none, .pointer none, .pointer none, .string ⟨#[]⟩] := by kernel_rfl
theorem bytes_395 : bytesOf Tryz.prog 395 = some 40 := by kernel_rfl
theorem field_395x0 : fieldOf Tryz.prog 395 0 = some (17, 0) := by kernel_rfl
theorem field_395x1 : fieldOf Tryz.prog 395 1 = some (17, 1) := by kernel_rfl
theorem field_395x2 : fieldOf Tryz.prog 395 2 = some (17, 2) := by kernel_rfl
theorem field_395x3 : fieldOf Tryz.prog 395 3 = some (9, 3) := by kernel_rfl
theorem places_395 : placesOf Tryz.prog 395 = some [(0, 1), (1, 1), (2, 1), (3, 1)] := by kernel_rfl
attribute [simp] sz_395 agg_395 zero_395 bytes_395 field_395x0 field_395x1 field_395x2 field_395x3 places_395
theorem sz_396 : szOf Tryz.prog 396 = some 4 := by kernel_rfl
theorem agg_396 : aggOf Tryz.prog 396 = some true := by kernel_rfl
theorem zero_396 : zeroOf Tryz.prog 396 = some [.pointer none, .pointer none, .pointer none, .string ⟨#[]⟩] := by kernel_rfl
theorem bytes_396 : bytesOf Tryz.prog 396 = some 40 := by kernel_rfl
theorem field_396x0 : fieldOf Tryz.prog 396 0 = some (17, 0) := by kernel_rfl
theorem field_396x1 : fieldOf Tryz.prog 396 1 = some (17, 1) := by kernel_rfl
theorem field_396x2 : fieldOf Tryz.prog 396 2 = some (17, 2) := by kernel_rfl
theorem field_396x3 : fieldOf Tryz.prog 396 3 = some (9, 3) := by kernel_rfl
theorem places_396 : placesOf Tryz.prog 396 = some [(0, 1), (1, 1), (2, 1), (3, 1)] := by kernel_rfl
attribute [simp] sz_396 agg_396 zero_396 bytes_396 field_396x0 field_396x1 field_396x2 field_396x3 places_396
theorem sz_397 : szOf Tryz.prog 397 = some 0 := by kernel_rfl
theorem agg_397 : aggOf Tryz.prog 397 = some true := by kernel_rfl
theorem zero_397 : zeroOf Tryz.prog 397 = some [] := by kernel_rfl
theorem bytes_397 : bytesOf Tryz.prog 397 = some 0 := by kernel_rfl
attribute [simp] sz_397 agg_397 zero_397 bytes_397
theorem sz_398 : szOf Tryz.prog 398 = some 0 := by kernel_rfl
theorem agg_398 : aggOf Tryz.prog 398 = some true := by kernel_rfl
theorem zero_398 : zeroOf Tryz.prog 398 = some [] := by kernel_rfl
theorem bytes_398 : bytesOf Tryz.prog 398 = some 0 := by kernel_rfl
theorem field_398x0 : fieldOf Tryz.prog 398 0 = some (397, 0) := by kernel_rfl
theorem places_398 : placesOf Tryz.prog 398 = some [(0, 0)] := by kernel_rfl
attribute [simp] sz_398 agg_398 zero_398 bytes_398 field_398x0 places_398
theorem sz_399 : szOf Tryz.prog 399 = some 0 := by kernel_rfl
theorem agg_399 : aggOf Tryz.prog 399 = some true := by kernel_rfl
theorem zero_399 : zeroOf Tryz.prog 399 = some [] := by kernel_rfl
theorem bytes_399 : bytesOf Tryz.prog 399 = some 0 := by kernel_rfl
theorem field_399x0 : fieldOf Tryz.prog 399 0 = some (397, 0) := by kernel_rfl
theorem places_399 : placesOf Tryz.prog 399 = some [(0, 0)] := by kernel_rfl
attribute [simp] sz_399 agg_399 zero_399 bytes_399 field_399x0 places_399
theorem sz_400 : szOf Tryz.prog 400 = some 1 := by kernel_rfl
theorem agg_400 : aggOf Tryz.prog 400 = some false := by kernel_rfl
theorem zero_400 : zeroOf Tryz.prog 400 = some [.int .u8 0] := by kernel_rfl
theorem bytes_400 : bytesOf Tryz.prog 400 = some 1 := by kernel_rfl
theorem int_400 : intOfT Tryz.prog 400 = some .u8 := by kernel_rfl
theorem und_400 : (Tryz.prog.underlying 400).isSome = true := by kernel_rfl
attribute [simp] sz_400 agg_400 zero_400 bytes_400 int_400 und_400
theorem sz_401 : szOf Tryz.prog 401 = some 1 := by kernel_rfl
theorem agg_401 : aggOf Tryz.prog 401 = some false := by kernel_rfl
theorem zero_401 : zeroOf Tryz.prog 401 = some [.int .u8 0] := by kernel_rfl
theorem bytes_401 : bytesOf Tryz.prog 401 = some 1 := by kernel_rfl
theorem int_401 : intOfT Tryz.prog 401 = some .u8 := by kernel_rfl
theorem und_401 : (Tryz.prog.underlying 401).isSome = true := by kernel_rfl
attribute [simp] sz_401 agg_401 zero_401 bytes_401 int_401 und_401
theorem sz_402 : szOf Tryz.prog 402 = some 1 := by kernel_rfl
theorem agg_402 : aggOf Tryz.prog 402 = some false := by kernel_rfl
theorem zero_402 : zeroOf Tryz.prog 402 = some [.nilFunc] := by kernel_rfl
theorem bytes_402 : bytesOf Tryz.prog 402 = some 8 := by kernel_rfl
attribute [simp] sz_402 agg_402 zero_402 bytes_402
theorem sz_403 : szOf Tryz.prog 403 = some 1 := by kernel_rfl
theorem agg_403 : aggOf Tryz.prog 403 = some false := by kernel_rfl
theorem zero_403 : zeroOf Tryz.prog 403 = some [.pointer none] := by kernel_rfl
theorem bytes_403 : bytesOf Tryz.prog 403 = some 8 := by kernel_rfl
theorem ptr_403 : isPtr Tryz.prog 403 = true := by kernel_rfl
attribute [simp] sz_403 agg_403 zero_403 bytes_403 ptr_403
theorem sz_404 : szOf Tryz.prog 404 = some 1 := by kernel_rfl
theorem agg_404 : aggOf Tryz.prog 404 = some false := by kernel_rfl
theorem zero_404 : zeroOf Tryz.prog 404 = some [.int .i32 0] := by kernel_rfl
theorem bytes_404 : bytesOf Tryz.prog 404 = some 4 := by kernel_rfl
theorem int_404 : intOfT Tryz.prog 404 = some .i32 := by kernel_rfl
theorem und_404 : (Tryz.prog.underlying 404).isSome = true := by kernel_rfl
attribute [simp] sz_404 agg_404 zero_404 bytes_404 int_404 und_404
theorem sz_405 : szOf Tryz.prog 405 = some 1 := by kernel_rfl
theorem agg_405 : aggOf Tryz.prog 405 = some false := by kernel_rfl
theorem zero_405 : zeroOf Tryz.prog 405 = some [.int .i32 0] := by kernel_rfl
theorem bytes_405 : bytesOf Tryz.prog 405 = some 4 := by kernel_rfl
theorem int_405 : intOfT Tryz.prog 405 = some .i32 := by kernel_rfl
theorem und_405 : (Tryz.prog.underlying 405).isSome = true := by kernel_rfl
attribute [simp] sz_405 agg_405 zero_405 bytes_405 int_405 und_405
theorem sz_406 : szOf Tryz.prog 406 = some 11 := by kernel_rfl
theorem agg_406 : aggOf Tryz.prog 406 = some true := by kernel_rfl
theorem zero_406 : zeroOf Tryz.prog 406 = some [.int .u64 0, .int .u64 0, .int .u32 0, .int .u8 0, .int .u8 0, .int .u8 0, .int .u8 0, .nilFunc, .pointer none, .int .i32 0, .int .i32 0] := by kernel_rfl
theorem bytes_406 : bytesOf Tryz.prog 406 = some 48 := by kernel_rfl
theorem field_406x0 : fieldOf Tryz.prog 406 0 = some (12, 0) := by kernel_rfl
theorem field_406x1 : fieldOf Tryz.prog 406 1 = some (12, 1) := by kernel_rfl
theorem field_406x2 : fieldOf Tryz.prog 406 2 = some (279, 2) := by kernel_rfl
theorem field_406x3 : fieldOf Tryz.prog 406 3 = some (400, 3) := by kernel_rfl
theorem field_406x4 : fieldOf Tryz.prog 406 4 = some (5, 4) := by kernel_rfl
theorem field_406x5 : fieldOf Tryz.prog 406 5 = some (5, 5) := by kernel_rfl
theorem field_406x6 : fieldOf Tryz.prog 406 6 = some (401, 6) := by kernel_rfl
theorem field_406x7 : fieldOf Tryz.prog 406 7 = some (402, 7) := by kernel_rfl
theorem field_406x8 : fieldOf Tryz.prog 406 8 = some (403, 8) := by kernel_rfl
theorem field_406x9 : fieldOf Tryz.prog 406 9 = some (404, 9) := by kernel_rfl
theorem field_406x10 : fieldOf Tryz.prog 406 10 = some (405, 10) := by kernel_rfl
theorem places_406 : placesOf Tryz.prog 406 = some [(0, 1), (1, 1), (2, 1), (3, 1), (4, 1), (5, 1), (6, 1), (7, 1), (8, 1), (9, 1), (10, 1)] := by kernel_rfl
attribute [simp] sz_406 agg_406 zero_406 bytes_406 field_406x0 field_406x1 field_406x2 field_406x3 field_406x4 field_406x5 field_406x6 field_406x7 field_406x8 field_406x9 field_406x10 places_406
theorem sz_407 : szOf Tryz.prog 407 = some 11 := by kernel_rfl
theorem agg_407 : aggOf Tryz.prog 407 = some true := by kernel_rfl
theorem zero_407 : zeroOf Tryz.prog 407 = some [.int .u64 0, .int .u64 0, .int .u32 0, .int .u8 0, .int .u8 0, .int .u8 0, .int .u8 0, .nilFunc, .pointer none, .int .i32 0, .int .i32 0] := by kernel_rfl
theorem bytes_407 : bytesOf Tryz.prog 407 = some 48 := by kernel_rfl
theorem field_407x0 : fieldOf Tryz.prog 407 0 = some (12, 0) := by kernel_rfl
theorem field_407x1 : fieldOf Tryz.prog 407 1 = some (12, 1) := by kernel_rfl
theorem field_407x2 : fieldOf Tryz.prog 407 2 = some (279, 2) := by kernel_rfl
theorem field_407x3 : fieldOf Tryz.prog 407 3 = some (400, 3) := by kernel_rfl
theorem field_407x4 : fieldOf Tryz.prog 407 4 = some (5, 4) := by kernel_rfl
theorem field_407x5 : fieldOf Tryz.prog 407 5 = some (5, 5) := by kernel_rfl
theorem field_407x6 : fieldOf Tryz.prog 407 6 = some (401, 6) := by kernel_rfl
theorem field_407x7 : fieldOf Tryz.prog 407 7 = some (402, 7) := by kernel_rfl
theorem field_407x8 : fieldOf Tryz.prog 407 8 = some (403, 8) := by kernel_rfl
theorem field_407x9 : fieldOf Tryz.prog 407 9 = some (404, 9) := by kernel_rfl
theorem field_407x10 : fieldOf Tryz.prog 407 10 = some (405, 10) := by kernel_rfl
theorem places_407 : placesOf Tryz.prog 407 = some [(0, 1), (1, 1), (2, 1), (3, 1), (4, 1), (5, 1), (6, 1), (7, 1), (8, 1), (9, 1), (10, 1)] := by kernel_rfl
attribute [simp] sz_407 agg_407 zero_407 bytes_407 field_407x0 field_407x1 field_407x2 field_407x3 field_407x4 field_407x5 field_407x6 field_407x7 field_407x8 field_407x9 field_407x10 places_407
theorem sz_408 : szOf Tryz.prog 408 = some 1 := by kernel_rfl
theorem agg_408 : aggOf Tryz.prog 408 = some false := by kernel_rfl
theorem zero_408 : zeroOf Tryz.prog 408 = some [.nilFunc] := by kernel_rfl
theorem bytes_408 : bytesOf Tryz.prog 408 = some 8 := by kernel_rfl
attribute [simp] sz_408 agg_408 zero_408 bytes_408
theorem sz_409 : szOf Tryz.prog 409 = some 1 := by kernel_rfl
theorem agg_409 : aggOf Tryz.prog 409 = some false := by kernel_rfl
theorem zero_409 : zeroOf Tryz.prog 409 = some [.nilFunc] := by kernel_rfl
theorem bytes_409 : bytesOf Tryz.prog 409 = some 8 := by kernel_rfl
attribute [simp] sz_409 agg_409 zero_409 bytes_409
theorem sz_410 : szOf Tryz.prog 410 = some 1 := by kernel_rfl
theorem agg_410 : aggOf Tryz.prog 410 = some true := by kernel_rfl
theorem zero_410 : zeroOf Tryz.prog 410 = some [.string ⟨#[]⟩] := by kernel_rfl
theorem bytes_410 : bytesOf Tryz.prog 410 = some 16 := by kernel_rfl
theorem eqf_410 : eqfOf Tryz.prog 410 = some [(9, 0)] := by kernel_rfl
theorem ng_410 : noGuard Tryz.prog 410 = true := by kernel_rfl
theorem field_410x0 : fieldOf Tryz.prog 410 0 = some (9, 0) := by kernel_rfl
theorem places_410 : placesOf Tryz.prog 410 = some [(0, 1)] := by kernel_rfl
attribute [simp] sz_410 agg_410 zero_410 bytes_410 eqf_410 ng_410 field_410x0 places_410
theorem sz_411 : szOf Tryz.prog 411 = some 1 := by kernel_rfl
theorem agg_411 : aggOf Tryz.prog 411 = some true := by kernel_rfl
theorem zero_411 : zeroOf Tryz.prog 411 = some [.string ⟨#[]⟩] := by kernel_rfl
theorem bytes_411 : bytesOf Tryz.prog 411 = some 16 := by kernel_rfl
theorem eqf_411 : eqfOf Tryz.prog 411 = some [(9, 0)] := by kernel_rfl
theorem ng_411 : noGuard Tryz.prog 411 = true := by kernel_rfl
theorem field_411x0 : fieldOf Tryz.prog 411 0 = some (9, 0) := by kernel_rfl
theorem places_411 : placesOf Tryz.prog 411 = some [(0, 1)] := by kernel_rfl
attribute [simp] sz_411 agg_411 zero_411 bytes_411 eqf_411 ng_411 field_411x0 places_411
theorem sz_412 : szOf Tryz.prog 412 = some 1 := by kernel_rfl
theorem agg_412 : aggOf Tryz.prog 412 = some false := by kernel_rfl
theorem zero_412 : zeroOf Tryz.prog 412 = some [.nilFunc] := by kernel_rfl
theorem bytes_412 : bytesOf Tryz.prog 412 = some 8 := by kernel_rfl
attribute [simp] sz_412 agg_412 zero_412 bytes_412
theorem sz_413 : szOf Tryz.prog 413 = some 1 := by kernel_rfl
theorem agg_413 : aggOf Tryz.prog 413 = some false := by kernel_rfl
theorem zero_413 : zeroOf Tryz.prog 413 = some [.nilFunc] := by kernel_rfl
theorem bytes_413 : bytesOf Tryz.prog 413 = some 8 := by kernel_rfl
attribute [simp] sz_413 agg_413 zero_413 bytes_413
theorem sz_414 : szOf Tryz.prog 414 = some 1 := by kernel_rfl
theorem agg_414 : aggOf Tryz.prog 414 = some false := by kernel_rfl
theorem zero_414 : zeroOf Tryz.prog 414 = some [.nilFunc] := by kernel_rfl
theorem bytes_414 : bytesOf Tryz.prog 414 = some 8 := by kernel_rfl
attribute [simp] sz_414 agg_414 zero_414 bytes_414
@[simp] theorem en_3 : enterable Tryz.prog 3 = true := by kernel_rfl
@[simp] theorem en_4 : enterable Tryz.prog 4 = true := by kernel_rfl
@[simp] theorem en_5 : enterable Tryz.prog 5 = true := by kernel_rfl
@[simp] theorem en_6 : enterable Tryz.prog 6 = true := by kernel_rfl
@[simp] theorem en_7 : enterable Tryz.prog 7 = true := by kernel_rfl
@[simp] theorem en_8 : enterable Tryz.prog 8 = true := by kernel_rfl
@[simp] theorem en_9 : enterable Tryz.prog 9 = true := by kernel_rfl
@[simp] theorem en_10 : enterable Tryz.prog 10 = true := by kernel_rfl
@[simp] theorem en_11 : enterable Tryz.prog 11 = true := by kernel_rfl
@[simp] theorem en_12 : enterable Tryz.prog 12 = true := by kernel_rfl
@[simp] theorem en_13 : enterable Tryz.prog 13 = true := by kernel_rfl
@[simp] theorem en_14 : enterable Tryz.prog 14 = true := by kernel_rfl
@[simp] theorem en_15 : enterable Tryz.prog 15 = true := by kernel_rfl
@[simp] theorem en_16 : enterable Tryz.prog 16 = true := by kernel_rfl
@[simp] theorem en_17 : enterable Tryz.prog 17 = true := by kernel_rfl
@[simp] theorem en_18 : enterable Tryz.prog 18 = true := by kernel_rfl
@[simp] theorem en_19 : enterable Tryz.prog 19 = true := by kernel_rfl
@[simp] theorem en_20 : enterable Tryz.prog 20 = true := by kernel_rfl
@[simp] theorem en_21 : enterable Tryz.prog 21 = true := by kernel_rfl
@[simp] theorem en_22 : enterable Tryz.prog 22 = true := by kernel_rfl
@[simp] theorem en_23 : enterable Tryz.prog 23 = true := by kernel_rfl
@[simp] theorem en_24 : enterable Tryz.prog 24 = true := by kernel_rfl
@[simp] theorem en_25 : enterable Tryz.prog 25 = true := by kernel_rfl
@[simp] theorem en_26 : enterable Tryz.prog 26 = true := by kernel_rfl
@[simp] theorem en_27 : enterable Tryz.prog 27 = true := by kernel_rfl
@[simp] theorem en_28 : enterable Tryz.prog 28 = true := by kernel_rfl
@[simp] theorem en_29 : enterable Tryz.prog 29 = true := by kernel_rfl
@[simp] theorem en_30 : enterable Tryz.prog 30 = true := by kernel_rfl
@[simp] theorem en_31 : enterable Tryz.prog 31 = true := by kernel_rfl
@[simp] theorem en_32 : enterable Tryz.prog 32 = true := by kernel_rfl
@[simp] theorem en_33 : enterable Tryz.prog 33 = true := by kernel_rfl
@[simp] theorem en_34 : enterable Tryz.prog 34 = true := by kernel_rfl
@[simp] theorem en_35 : enterable Tryz.prog 35 = true := by kernel_rfl
@[simp] theorem en_36 : enterable Tryz.prog 36 = true := by kernel_rfl
@[simp] theorem en_37 : enterable Tryz.prog 37 = true := by kernel_rfl
@[simp] theorem en_38 : enterable Tryz.prog 38 = true := by kernel_rfl
@[simp] theorem en_39 : enterable Tryz.prog 39 = true := by kernel_rfl
@[simp] theorem en_40 : enterable Tryz.prog 40 = true := by kernel_rfl
@[simp] theorem en_41 : enterable Tryz.prog 41 = true := by kernel_rfl
@[simp] theorem en_42 : enterable Tryz.prog 42 = true := by kernel_rfl
@[simp] theorem en_43 : enterable Tryz.prog 43 = true := by kernel_rfl
@[simp] theorem en_44 : enterable Tryz.prog 44 = true := by kernel_rfl
@[simp] theorem en_45 : enterable Tryz.prog 45 = true := by kernel_rfl
@[simp] theorem en_46 : enterable Tryz.prog 46 = true := by kernel_rfl
@[simp] theorem en_47 : enterable Tryz.prog 47 = true := by kernel_rfl
@[simp] theorem en_48 : enterable Tryz.prog 48 = true := by kernel_rfl
@[simp] theorem en_49 : enterable Tryz.prog 49 = true := by kernel_rfl
@[simp] theorem en_50 : enterable Tryz.prog 50 = true := by kernel_rfl
@[simp] theorem en_51 : enterable Tryz.prog 51 = true := by kernel_rfl
@[simp] theorem en_52 : enterable Tryz.prog 52 = true := by kernel_rfl
@[simp] theorem en_53 : enterable Tryz.prog 53 = true := by kernel_rfl
@[simp] theorem en_54 : enterable Tryz.prog 54 = true := by kernel_rfl
@[simp] theorem en_55 : enterable Tryz.prog 55 = true := by kernel_rfl
@[simp] theorem en_56 : enterable Tryz.prog 56 = true := by kernel_rfl
@[simp] theorem en_57 : enterable Tryz.prog 57 = true := by kernel_rfl
@[simp] theorem en_58 : enterable Tryz.prog 58 = true := by kernel_rfl
@[simp] theorem en_59 : enterable Tryz.prog 59 = true := by kernel_rfl
@[simp] theorem en_60 : enterable Tryz.prog 60 = true := by kernel_rfl
@[simp] theorem en_61 : enterable Tryz.prog 61 = true := by kernel_rfl
@[simp] theorem en_62 : enterable Tryz.prog 62 = true := by kernel_rfl
@[simp] theorem en_63 : enterable Tryz.prog 63 = true := by kernel_rfl
@[simp] theorem en_64 : enterable Tryz.prog 64 = true := by kernel_rfl
@[simp] theorem en_65 : enterable Tryz.prog 65 = true := by kernel_rfl
@[simp] theorem en_66 : enterable Tryz.prog 66 = true := by kernel_rfl
@[simp] theorem en_67 : enterable Tryz.prog 67 = true := by kernel_rfl
@[simp] theorem en_68 : enterable Tryz.prog 68 = true := by kernel_rfl
@[simp] theorem en_69 : enterable Tryz.prog 69 = true := by kernel_rfl
@[simp] theorem en_70 : enterable Tryz.prog 70 = true := by kernel_rfl
@[simp] theorem en_71 : enterable Tryz.prog 71 = true := by kernel_rfl
@[simp] theorem en_72 : enterable Tryz.prog 72 = true := by kernel_rfl
@[simp] theorem en_73 : enterable Tryz.prog 73 = true := by kernel_rfl
@[simp] theorem en_74 : enterable Tryz.prog 74 = true := by kernel_rfl
@[simp] theorem en_75 : enterable Tryz.prog 75 = true := by kernel_rfl
@[simp] theorem en_76 : enterable Tryz.prog 76 = true := by kernel_rfl
@[simp] theorem en_77 : enterable Tryz.prog 77 = true := by kernel_rfl
@[simp] theorem en_78 : enterable Tryz.prog 78 = true := by kernel_rfl
@[simp] theorem en_79 : enterable Tryz.prog 79 = true := by kernel_rfl
@[simp] theorem en_80 : enterable Tryz.prog 80 = true := by kernel_rfl
@[simp] theorem en_81 : enterable Tryz.prog 81 = true := by kernel_rfl
@[simp] theorem en_82 : enterable Tryz.prog 82 = true := by kernel_rfl
@[simp] theorem en_83 : enterable Tryz.prog 83 = true := by kernel_rfl
@[simp] theorem en_84 : enterable Tryz.prog 84 = true := by kernel_rfl
@[simp] theorem en_85 : enterable Tryz.prog 85 = true := by kernel_rfl
@[simp] theorem en_86 : enterable Tryz.prog 86 = true := by kernel_rfl
@[simp] theorem en_87 : enterable Tryz.prog 87 = true := by kernel_rfl
@[simp] theorem en_88 : enterable Tryz.prog 88 = true := by kernel_rfl
@[simp] theorem en_89 : enterable Tryz.prog 89 = true := by kernel_rfl
@[simp] theorem en_90 : enterable Tryz.prog 90 = true := by kernel_rfl
@[simp] theorem en_91 : enterable Tryz.prog 91 = true := by kernel_rfl
@[simp] theorem en_92 : enterable Tryz.prog 92 = true := by kernel_rfl
@[simp] theorem en_93 : enterable Tryz.prog 93 = true := by kernel_rfl
@[simp] theorem en_94 : enterable Tryz.prog 94 = true := by kernel_rfl
@[simp] theorem en_95 : enterable Tryz.prog 95 = true := by kernel_rfl
@[simp] theorem en_96 : enterable Tryz.prog 96 = true := by kernel_rfl
@[simp] theorem en_97 : enterable Tryz.prog 97 = true := by kernel_rfl
@[simp] theorem en_98 : enterable Tryz.prog 98 = true := by kernel_rfl
@[simp] theorem en_99 : enterable Tryz.prog 99 = true := by kernel_rfl
@[simp] theorem en_100 : enterable Tryz.prog 100 = true := by kernel_rfl
@[simp] theorem en_101 : enterable Tryz.prog 101 = true := by kernel_rfl
@[simp] theorem en_102 : enterable Tryz.prog 102 = true := by kernel_rfl
@[simp] theorem en_103 : enterable Tryz.prog 103 = true := by kernel_rfl
@[simp] theorem en_104 : enterable Tryz.prog 104 = true := by kernel_rfl
@[simp] theorem en_105 : enterable Tryz.prog 105 = true := by kernel_rfl
@[simp] theorem en_106 : enterable Tryz.prog 106 = true := by kernel_rfl
@[simp] theorem en_107 : enterable Tryz.prog 107 = true := by kernel_rfl
@[simp] theorem en_108 : enterable Tryz.prog 108 = true := by kernel_rfl
@[simp] theorem en_109 : enterable Tryz.prog 109 = true := by kernel_rfl
@[simp] theorem en_110 : enterable Tryz.prog 110 = true := by kernel_rfl
@[simp] theorem en_111 : enterable Tryz.prog 111 = true := by kernel_rfl
@[simp] theorem en_112 : enterable Tryz.prog 112 = true := by kernel_rfl
@[simp] theorem en_113 : enterable Tryz.prog 113 = true := by kernel_rfl
@[simp] theorem en_114 : enterable Tryz.prog 114 = true := by kernel_rfl
@[simp] theorem en_115 : enterable Tryz.prog 115 = true := by kernel_rfl
@[simp] theorem en_116 : enterable Tryz.prog 116 = true := by kernel_rfl
@[simp] theorem en_117 : enterable Tryz.prog 117 = true := by kernel_rfl
@[simp] theorem en_118 : enterable Tryz.prog 118 = true := by kernel_rfl
@[simp] theorem en_119 : enterable Tryz.prog 119 = true := by kernel_rfl
@[simp] theorem en_120 : enterable Tryz.prog 120 = true := by kernel_rfl
@[simp] theorem en_121 : enterable Tryz.prog 121 = true := by kernel_rfl
@[simp] theorem en_122 : enterable Tryz.prog 122 = true := by kernel_rfl
@[simp] theorem en_123 : enterable Tryz.prog 123 = true := by kernel_rfl
@[simp] theorem en_124 : enterable Tryz.prog 124 = true := by kernel_rfl
@[simp] theorem en_125 : enterable Tryz.prog 125 = true := by kernel_rfl
@[simp] theorem en_127 : enterable Tryz.prog 127 = true := by kernel_rfl
@[simp] theorem en_128 : enterable Tryz.prog 128 = true := by kernel_rfl
@[simp] theorem en_129 : enterable Tryz.prog 129 = true := by kernel_rfl
@[simp] theorem en_131 : enterable Tryz.prog 131 = true := by kernel_rfl
@[simp] theorem en_132 : enterable Tryz.prog 132 = true := by kernel_rfl
@[simp] theorem en_133 : enterable Tryz.prog 133 = true := by kernel_rfl
@[simp] theorem en_134 : enterable Tryz.prog 134 = true := by kernel_rfl
@[simp] theorem en_135 : enterable Tryz.prog 135 = true := by kernel_rfl
@[simp] theorem en_136 : enterable Tryz.prog 136 = true := by kernel_rfl
@[simp] theorem en_137 : enterable Tryz.prog 137 = true := by kernel_rfl
@[simp] theorem en_138 : enterable Tryz.prog 138 = true := by kernel_rfl
@[simp] theorem en_139 : enterable Tryz.prog 139 = true := by kernel_rfl
@[simp] theorem en_140 : enterable Tryz.prog 140 = true := by kernel_rfl
@[simp] theorem en_141 : enterable Tryz.prog 141 = true := by kernel_rfl
@[simp] theorem en_142 : enterable Tryz.prog 142 = true := by kernel_rfl
@[simp] theorem en_143 : enterable Tryz.prog 143 = true := by kernel_rfl
@[simp] theorem en_144 : enterable Tryz.prog 144 = true := by kernel_rfl
@[simp] theorem en_145 : enterable Tryz.prog 145 = true := by kernel_rfl
@[simp] theorem en_146 : enterable Tryz.prog 146 = true := by kernel_rfl
@[simp] theorem en_147 : enterable Tryz.prog 147 = true := by kernel_rfl
@[simp] theorem en_148 : enterable Tryz.prog 148 = true := by kernel_rfl
@[simp] theorem en_149 : enterable Tryz.prog 149 = true := by kernel_rfl
@[simp] theorem en_150 : enterable Tryz.prog 150 = true := by kernel_rfl
@[simp] theorem en_151 : enterable Tryz.prog 151 = true := by kernel_rfl
@[simp] theorem en_152 : enterable Tryz.prog 152 = true := by kernel_rfl
@[simp] theorem en_153 : enterable Tryz.prog 153 = true := by kernel_rfl
@[simp] theorem en_154 : enterable Tryz.prog 154 = true := by kernel_rfl
@[simp] theorem en_155 : enterable Tryz.prog 155 = true := by kernel_rfl
@[simp] theorem en_156 : enterable Tryz.prog 156 = true := by kernel_rfl
@[simp] theorem en_157 : enterable Tryz.prog 157 = true := by kernel_rfl
@[simp] theorem en_158 : enterable Tryz.prog 158 = true := by kernel_rfl
@[simp] theorem en_159 : enterable Tryz.prog 159 = true := by kernel_rfl
@[simp] theorem en_160 : enterable Tryz.prog 160 = true := by kernel_rfl
@[simp] theorem en_161 : enterable Tryz.prog 161 = true := by kernel_rfl
@[simp] theorem en_162 : enterable Tryz.prog 162 = true := by kernel_rfl
@[simp] theorem en_163 : enterable Tryz.prog 163 = true := by kernel_rfl
@[simp] theorem en_164 : enterable Tryz.prog 164 = true := by kernel_rfl
@[simp] theorem en_165 : enterable Tryz.prog 165 = true := by kernel_rfl
@[simp] theorem en_166 : enterable Tryz.prog 166 = true := by kernel_rfl
@[simp] theorem en_167 : enterable Tryz.prog 167 = true := by kernel_rfl
@[simp] theorem en_168 : enterable Tryz.prog 168 = true := by kernel_rfl
@[simp] theorem en_169 : enterable Tryz.prog 169 = true := by kernel_rfl
@[simp] theorem en_170 : enterable Tryz.prog 170 = true := by kernel_rfl
@[simp] theorem en_171 : enterable Tryz.prog 171 = true := by kernel_rfl
@[simp] theorem en_172 : enterable Tryz.prog 172 = true := by kernel_rfl
@[simp] theorem en_173 : enterable Tryz.prog 173 = true := by kernel_rfl
@[simp] theorem en_174 : enterable Tryz.prog 174 = true := by kernel_rfl
@[simp] theorem en_175 : enterable Tryz.prog 175 = true := by kernel_rfl
@[simp] theorem en_176 : enterable Tryz.prog 176 = true := by kernel_rfl
@[simp] theorem en_178 : enterable Tryz.prog 178 = true := by kernel_rfl
@[simp] theorem en_179 : enterable Tryz.prog 179 = true := by kernel_rfl
@[simp] theorem en_180 : enterable Tryz.prog 180 = true := by kernel_rfl
@[simp] theorem en_181 : enterable Tryz.prog 181 = true := by kernel_rfl
@[simp] theorem en_182 : enterable Tryz.prog 182 = true := by kernel_rfl
@[simp] theorem en_183 : enterable Tryz.prog 183 = true := by kernel_rfl
@[simp] theorem en_184 : enterable Tryz.prog 184 = true := by kernel_rfl
@[simp] theorem en_185 : enterable Tryz.prog 185 = true := by kernel_rfl
@[simp] theorem en_186 : enterable Tryz.prog 186 = true := by kernel_rfl
@[simp] theorem en_187 : enterable Tryz.prog 187 = true := by kernel_rfl
@[simp] theorem en_188 : enterable Tryz.prog 188 = true := by kernel_rfl
@[simp] theorem en_189 : enterable Tryz.prog 189 = true := by kernel_rfl
@[simp] theorem en_190 : enterable Tryz.prog 190 = true := by kernel_rfl
@[simp] theorem en_191 : enterable Tryz.prog 191 = true := by kernel_rfl
@[simp] theorem en_192 : enterable Tryz.prog 192 = true := by kernel_rfl
@[simp] theorem en_193 : enterable Tryz.prog 193 = true := by kernel_rfl
@[simp] theorem en_194 : enterable Tryz.prog 194 = true := by kernel_rfl
@[simp] theorem en_195 : enterable Tryz.prog 195 = true := by kernel_rfl
@[simp] theorem en_196 : enterable Tryz.prog 196 = true := by kernel_rfl
@[simp] theorem en_197 : enterable Tryz.prog 197 = true := by kernel_rfl
@[simp] theorem en_198 : enterable Tryz.prog 198 = true := by kernel_rfl
@[simp] theorem en_199 : enterable Tryz.prog 199 = true := by kernel_rfl
@[simp] theorem en_200 : enterable Tryz.prog 200 = true := by kernel_rfl
@[simp] theorem en_201 : enterable Tryz.prog 201 = true := by kernel_rfl
@[simp] theorem en_202 : enterable Tryz.prog 202 = true := by kernel_rfl
@[simp] theorem en_203 : enterable Tryz.prog 203 = true := by kernel_rfl
@[simp] theorem en_204 : enterable Tryz.prog 204 = true := by kernel_rfl
@[simp] theorem en_205 : enterable Tryz.prog 205 = true := by kernel_rfl
@[simp] theorem en_206 : enterable Tryz.prog 206 = true := by kernel_rfl
@[simp] theorem en_207 : enterable Tryz.prog 207 = true := by kernel_rfl
@[simp] theorem en_208 : enterable Tryz.prog 208 = true := by kernel_rfl
@[simp] theorem en_209 : enterable Tryz.prog 209 = true := by kernel_rfl
@[simp] theorem en_210 : enterable Tryz.prog 210 = true := by kernel_rfl
@[simp] theorem en_211 : enterable Tryz.prog 211 = true := by kernel_rfl
@[simp] theorem en_212 : enterable Tryz.prog 212 = true := by kernel_rfl
@[simp] theorem en_213 : enterable Tryz.prog 213 = true := by kernel_rfl
@[simp] theorem en_214 : enterable Tryz.prog 214 = true := by kernel_rfl
@[simp] theorem en_215 : enterable Tryz.prog 215 = true := by kernel_rfl
@[simp] theorem en_216 : enterable Tryz.prog 216 = true := by kernel_rfl
@[simp] theorem en_217 : enterable Tryz.prog 217 = true := by kernel_rfl
@[simp] theorem en_218 : enterable Tryz.prog 218 = true := by kernel_rfl
@[simp] theorem en_219 : enterable Tryz.prog 219 = true := by kernel_rfl
@[simp] theorem en_220 : enterable Tryz.prog 220 = true := by kernel_rfl
@[simp] theorem en_221 : enterable Tryz.prog 221 = true := by kernel_rfl
@[simp] theorem en_228 : enterable Tryz.prog 228 = true := by kernel_rfl
@[simp] theorem en_229 : enterable Tryz.prog 229 = true := by kernel_rfl
@[simp] theorem en_231 : enterable Tryz.prog 231 = true := by kernel_rfl
@[simp] theorem en_232 : enterable Tryz.prog 232 = true := by kernel_rfl
@[simp] theorem en_237 : enterable Tryz.prog 237 = true := by kernel_rfl
@[simp] theorem en_240 : enterable Tryz.prog 240 = true := by kernel_rfl
@[simp] theorem en_241 : enterable Tryz.prog 241 = true := by kernel_rfl
@[simp] theorem en_242 : enterable Tryz.prog 242 = true := by kernel_rfl
@[simp] theorem en_243 : enterable Tryz.prog 243 = true := by kernel_rfl
@[simp] theorem en_244 : enterable Tryz.prog 244 = true := by kernel_rfl
@[simp] theorem en_245 : enterable Tryz.prog 245 = true := by kernel_rfl
@[simp] theorem en_246 : enterable Tryz.prog 246 = true := by kernel_rfl
@[simp] theorem en_247 : enterable Tryz.prog 247 = true := by kernel_rfl
@[simp] theorem en_248 : enterable Tryz.prog 248 = true := by kernel_rfl
@[simp] theorem en_249 : enterable Tryz.prog 249 = true := by kernel_rfl
@[simp] theorem en_250 : enterable Tryz.prog 250 = true := by kernel_rfl
@[simp] theorem en_251 : enterable Tryz.prog 251 = true := by kernel_rfl
@[simp] theorem en_252 : enterable Tryz.prog 252 = true := by kernel_rfl
@[simp] theorem en_253 : enterable Tryz.prog 253 = true := by kernel_rfl
@[simp] theorem en_254 : enterable Tryz.prog 254 = true := by kernel_rfl
@[simp] theorem en_255 : enterable Tryz.prog 255 = true := by kernel_rfl
@[simp] theorem en_256 : enterable Tryz.prog 256 = true := by kernel_rfl
@[simp] theorem en_257 : enterable Tryz.prog 257 = true := by kernel_rfl
@[simp] theorem en_258 : enterable Tryz.prog 258 = true := by kernel_rfl
@[simp] theorem en_259 : enterable Tryz.prog 259 = true := by kernel_rfl
@[simp] theorem en_260 : enterable Tryz.prog 260 = true := by kernel_rfl
@[simp] theorem en_261 : enterable Tryz.prog 261 = true := by kernel_rfl
@[simp] theorem en_262 : enterable Tryz.prog 262 = true := by kernel_rfl
@[simp] theorem en_263 : enterable Tryz.prog 263 = true := by kernel_rfl
@[simp] theorem en_264 : enterable Tryz.prog 264 = true := by kernel_rfl
@[simp] theorem en_265 : enterable Tryz.prog 265 = true := by kernel_rfl
@[simp] theorem en_266 : enterable Tryz.prog 266 = true := by kernel_rfl
@[simp] theorem en_267 : enterable Tryz.prog 267 = true := by kernel_rfl
@[simp] theorem en_268 : enterable Tryz.prog 268 = true := by kernel_rfl
@[simp] theorem en_269 : enterable Tryz.prog 269 = true := by kernel_rfl
@[simp] theorem en_270 : enterable Tryz.prog 270 = true := by kernel_rfl
@[simp] theorem en_271 : enterable Tryz.prog 271 = true := by kernel_rfl
@[simp] theorem en_272 : enterable Tryz.prog 272 = true := by kernel_rfl
@[simp] theorem en_273 : enterable Tryz.prog 273 = true := by kernel_rfl
@[simp] theorem en_274 : enterable Tryz.prog 274 = true := by kernel_rfl
@[simp] theorem en_280 : enterable Tryz.prog 280 = true := by kernel_rfl
@[simp] theorem en_281 : enterable Tryz.prog 281 = true := by kernel_rfl
@[simp] theorem en_282 : enterable Tryz.prog 282 = true := by kernel_rfl
@[simp] theorem en_283 : enterable Tryz.prog 283 = true := by kernel_rfl
@[simp] theorem en_284 : enterable Tryz.prog 284 = true := by kernel_rfl
@[simp] theorem en_285 : enterable Tryz.prog 285 = true := by kernel_rfl
@[simp] theorem en_286 : enterable Tryz.prog 286 = true := by kernel_rfl
@[simp] theorem en_287 : enterable Tryz.prog 287 = true := by kernel_rfl
@[simp] theorem en_288 : enterable Tryz.prog 288 = true := by kernel_rfl
@[simp] theorem en_289 : enterable Tryz.prog 289 = true := by kernel_rfl
@[simp] theorem en_290 : enterable Tryz.prog 290 = true := by kernel_rfl
@[simp] theorem en_291 : enterable Tryz.prog 291 = true := by kernel_rfl
@[simp] theorem en_292 : enterable Tryz.prog 292 = true := by kernel_rfl
@[simp] theorem en_293 : enterable Tryz.prog 293 = true := by kernel_rfl
@[simp] theorem en_294 : enterable Tryz.prog 294 = true := by kernel_rfl
@[simp] theorem en_295 : enterable Tryz.prog 295 = true := by kernel_rfl
@[simp] theorem en_296 : enterable Tryz.prog 296 = true := by kernel_rfl
@[simp] theorem en_297 : enterable Tryz.prog 297 = true := by kernel_rfl
@[simp] theorem en_298 : enterable Tryz.prog 298 = true := by kernel_rfl
@[simp] theorem en_299 : enterable Tryz.prog 299 = true := by kernel_rfl
@[simp] theorem en_300 : enterable Tryz.prog 300 = true := by kernel_rfl
@[simp] theorem en_301 : enterable Tryz.prog 301 = true := by kernel_rfl
@[simp] theorem en_302 : enterable Tryz.prog 302 = true := by kernel_rfl
end Go.Proofs.YtidhdlhblhbahaaGreat.Am
