/- Closed facts on the types of the translation. -/
import Derived.Test.YtidhdlhblhbahaaProg
import Derived.Test.YtidhdlhblhbahaaAmA
import Derived.KernelRfl
namespace Go.Proofs.Ytidhdlhblhbahaa.Am
open Go Go.Proofs
theorem sz_1 : szOf Try.prog 1 = some 1 := by kernel_rfl
theorem agg_1 : aggOf Try.prog 1 = some false := by kernel_rfl
theorem zero_1 : zeroOf Try.prog 1 = some [.nilFunc] := by kernel_rfl
theorem bytes_1 : bytesOf Try.prog 1 = some 8 := by kernel_rfl
attribute [simp] sz_1 agg_1 zero_1 bytes_1
theorem sz_2 : szOf Try.prog 2 = some 1 := by kernel_rfl
theorem agg_2 : aggOf Try.prog 2 = some false := by kernel_rfl
theorem zero_2 : zeroOf Try.prog 2 = some [.int .i64 0] := by kernel_rfl
theorem bytes_2 : bytesOf Try.prog 2 = some 8 := by kernel_rfl
theorem int_2 : intOfT Try.prog 2 = some .i64 := by kernel_rfl
theorem und_2 : (Try.prog.underlying 2).isSome = true := by kernel_rfl
attribute [simp] sz_2 agg_2 zero_2 bytes_2 int_2 und_2
theorem sz_3 : szOf Try.prog 3 = some 1 := by kernel_rfl
theorem agg_3 : aggOf Try.prog 3 = some false := by kernel_rfl
theorem zero_3 : zeroOf Try.prog 3 = some [.int .i64 0] := by kernel_rfl
theorem bytes_3 : bytesOf Try.prog 3 = some 8 := by kernel_rfl
theorem int_3 : intOfT Try.prog 3 = some .i64 := by kernel_rfl
theorem und_3 : (Try.prog.underlying 3).isSome = true := by kernel_rfl
attribute [simp] sz_3 agg_3 zero_3 bytes_3 int_3 und_3
theorem sz_4 : szOf Try.prog 4 = some 1 := by kernel_rfl
theorem agg_4 : aggOf Try.prog 4 = some false := by kernel_rfl
theorem zero_4 : zeroOf Try.prog 4 = some [.bool false] := by kernel_rfl
theorem bytes_4 : bytesOf Try.prog 4 = some 1 := by kernel_rfl
theorem bool_4 : isBool Try.prog 4 = true := by kernel_rfl
attribute [simp] sz_4 agg_4 zero_4 bytes_4 bool_4
theorem sz_5 : szOf Try.prog 5 = some 1 := by kernel_rfl
theorem agg_5 : aggOf Try.prog 5 = some false := by kernel_rfl
theorem zero_5 : zeroOf Try.prog 5 = some [.int .u8 0] := by kernel_rfl
theorem bytes_5 : bytesOf Try.prog 5 = some 1 := by kernel_rfl
theorem int_5 : intOfT Try.prog 5 = some .u8 := by kernel_rfl
theorem und_5 : (Try.prog.underlying 5).isSome = true := by kernel_rfl
attribute [simp] sz_5 agg_5 zero_5 bytes_5 int_5 und_5
theorem sz_6 : szOf Try.prog 6 = some 1 := by kernel_rfl
theorem agg_6 : aggOf Try.prog 6 = some false := by kernel_rfl
theorem zero_6 : zeroOf Try.prog 6 = some [.int .u8 0] := by kernel_rfl
theorem bytes_6 : bytesOf Try.prog 6 = some 1 := by kernel_rfl
theorem int_6 : intOfT Try.prog 6 = some .u8 := by kernel_rfl
theorem und_6 : (Try.prog.underlying 6).isSome = true := by kernel_rfl
attribute [simp] sz_6 agg_6 zero_6 bytes_6 int_6 und_6
theorem sz_7 : szOf Try.prog 7 = some 4 := by kernel_rfl
theorem agg_7 : aggOf Try.prog 7 = some true := by kernel_rfl
theorem zero_7 : zeroOf Try.prog 7 = some [.int .i64 0, .int .i64 0, .bool false, .int .u8 0] := by kernel_rfl
theorem bytes_7 : bytesOf Try.prog 7 = some 24 := by kernel_rfl
theorem field_7x0 : fieldOf Try.prog 7 0 = some (2, 0) := by kernel_rfl
theorem field_7x1 : fieldOf Try.prog 7 1 = some (3, 1) := by kernel_rfl
theorem field_7x2 : fieldOf Try.prog 7 2 = some (4, 2) := by kernel_rfl
theorem field_7x3 : fieldOf Try.prog 7 3 = some (6, 3) := by kernel_rfl
theorem places_7 : placesOf Try.prog 7 = some [(0, 1), (1, 1), (2, 1), (3, 1)] := by kernel_rfl
attribute [simp] sz_7 agg_7 zero_7 bytes_7 field_7x0 field_7x1 field_7x2 field_7x3 places_7
theorem sz_8 : szOf Try.prog 8 = some 4 := by kernel_rfl
theorem agg_8 : aggOf Try.prog 8 = some true := by kernel_rfl
theorem zero_8 : zeroOf Try.prog 8 = some [.int .i64 0, .int .i64 0, .bool false, .int .u8 0] := by kernel_rfl
theorem bytes_8 : bytesOf Try.prog 8 = some 24 := by kernel_rfl
theorem field_8x0 : fieldOf Try.prog 8 0 = some (2, 0) := by kernel_rfl
theorem field_8x1 : fieldOf Try.prog 8 1 = some (3, 1) := by kernel_rfl
theorem field_8x2 : fieldOf Try.prog 8 2 = some (4, 2) := by kernel_rfl
theorem field_8x3 : fieldOf Try.prog 8 3 = some (6, 3) := by kernel_rfl
theorem places_8 : placesOf Try.prog 8 = some [(0, 1), (1, 1), (2, 1), (3, 1)] := by kernel_rfl
attribute [simp] sz_8 agg_8 zero_8 bytes_8 field_8x0 field_8x1 field_8x2 field_8x3 places_8
theorem sz_9 : szOf Try.prog 9 = some 1 := by kernel_rfl
theorem agg_9 : aggOf Try.prog 9 = some false := by kernel_rfl
theorem zero_9 : zeroOf Try.prog 9 = some [.string ⟨#[]⟩] := by kernel_rfl
theorem bytes_9 : bytesOf Try.prog 9 = some 16 := by kernel_rfl
theorem str_9 : isStr Try.prog 9 = true := by kernel_rfl
attribute [simp] sz_9 agg_9 zero_9 bytes_9 str_9
theorem sz_10 : szOf Try.prog 10 = some 1 := by kernel_rfl
theorem agg_10 : aggOf Try.prog 10 = some false := by kernel_rfl
theorem zero_10 : zeroOf Try.prog 10 = some [.string ⟨#[]⟩] := by kernel_rfl
theorem bytes_10 : bytesOf Try.prog 10 = some 16 := by kernel_rfl
theorem str_10 : isStr Try.prog 10 = true := by kernel_rfl
attribute [simp] sz_10 agg_10 zero_10 bytes_10 str_10
theorem sz_11 : szOf Try.prog 11 = some 1 := by kernel_rfl
theorem agg_11 : aggOf Try.prog 11 = some false := by kernel_rfl
theorem zero_11 : zeroOf Try.prog 11 = some [.string ⟨#[]⟩] := by kernel_rfl
theorem bytes_11 : bytesOf Try.prog 11 = some 16 := by kernel_rfl
theorem str_11 : isStr Try.prog 11 = true := by kernel_rfl
attribute [simp] sz_11 agg_11 zero_11 bytes_11 str_11
theorem sz_12 : szOf Try.prog 12 = some 1 := by kernel_rfl
theorem agg_12 : aggOf Try.prog 12 = some false := by kernel_rfl
theorem zero_12 : zeroOf Try.prog 12 = some [.int .u64 0] := by kernel_rfl
theorem bytes_12 : bytesOf Try.prog 12 = some 8 := by kernel_rfl
theorem int_12 : intOfT Try.prog 12 = some .u64 := by kernel_rfl
theorem und_12 : (Try.prog.underlying 12).isSome = true := by kernel_rfl
attribute [simp] sz_12 agg_12 zero_12 bytes_12 int_12 und_12
theorem sz_13 : szOf Try.prog 13 = some 2 := by kernel_rfl
theorem agg_13 : aggOf Try.prog 13 = some true := by kernel_rfl
theorem zero_13 : zeroOf Try.prog 13 = some [.string ⟨#[]⟩, .int .u64 0] := by kernel_rfl
theorem bytes_13 : bytesOf Try.prog 13 = some 24 := by kernel_rfl
theorem field_13x0 : fieldOf Try.prog 13 0 = some (9, 0) := by kernel_rfl
theorem field_13x1 : fieldOf Try.prog 13 1 = some (12, 1) := by kernel_rfl
theorem places_13 : placesOf Try.prog 13 = some [(0, 1), (1, 1)] := by kernel_rfl
attribute [simp] sz_13 agg_13 zero_13 bytes_13 field_13x0 field_13x1 places_13
theorem sz_14 : szOf Try.prog 14 = some 2 := by kernel_rfl
theorem agg_14 : aggOf Try.prog 14 = some true := by kernel_rfl
theorem zero_14 : zeroOf Try.prog 14 = some [.string ⟨#[]⟩, .int .u64 0] := by kernel_rfl
theorem bytes_14 : bytesOf Try.prog 14 = some 24 := by kernel_rfl
theorem field_14x0 : fieldOf Try.prog 14 0 = some (9, 0) := by kernel_rfl
theorem field_14x1 : fieldOf Try.prog 14 1 = some (12, 1) := by kernel_rfl
theorem places_14 : placesOf Try.prog 14 = some [(0, 1), (1, 1)] := by kernel_rfl
attribute [simp] sz_14 agg_14 zero_14 bytes_14 field_14x0 field_14x1 places_14
theorem sz_15 : szOf Try.prog 15 = some 1 := by kernel_rfl
theorem agg_15 : aggOf Try.prog 15 = some false := by kernel_rfl
theorem zero_15 : zeroOf Try.prog 15 = some [.pointer none] := by kernel_rfl
theorem bytes_15 : bytesOf Try.prog 15 = some 8 := by kernel_rfl
theorem ptr_15 : isPtr Try.prog 15 = true := by kernel_rfl
attribute [simp] sz_15 agg_15 zero_15 bytes_15 ptr_15
theorem sz_16 : szOf Try.prog 16 = some 1 := by kernel_rfl
theorem agg_16 : aggOf Try.prog 16 = some false := by kernel_rfl
theorem zero_16 : zeroOf Try.prog 16 = some [.pointer none] := by kernel_rfl
theorem bytes_16 : bytesOf Try.prog 16 = some 8 := by kernel_rfl
theorem ptr_16 : isPtr Try.prog 16 = true := by kernel_rfl
attribute [simp] sz_16 agg_16 zero_16 bytes_16 ptr_16
theorem sz_17 : szOf Try.prog 17 = some 1 := by kernel_rfl
theorem agg_17 : aggOf Try.prog 17 = some false := by kernel_rfl
theorem zero_17 : zeroOf Try.prog 17 = some [.pointer none] := by kernel_rfl
theorem bytes_17 : bytesOf Try.prog 17 = some 8 := by kernel_rfl
theorem ptr_17 : isPtr Try.prog 17 = true := by kernel_rfl
attribute [simp] sz_17 agg_17 zero_17 bytes_17 ptr_17
theorem sz_18 : szOf Try.prog 18 = some 1 := by kernel_rfl
theorem agg_18 : aggOf Try.prog 18 = some true := by kernel_rfl
theorem zero_18 : zeroOf Try.prog 18 = some [.pointer none] := by kernel_rfl
theorem bytes_18 : bytesOf Try.prog 18 = some 8 := by kernel_rfl
theorem field_18x0 : fieldOf Try.prog 18 0 = some (17, 0) := by kernel_rfl
theorem places_18 : placesOf Try.prog 18 = some [(0, 1)] := by kernel_rfl
attribute [simp] sz_18 agg_18 zero_18 bytes_18 field_18x0 places_18
theorem sz_19 : szOf Try.prog 19 = some 1 := by kernel_rfl
theorem agg_19 : aggOf Try.prog 19 = some true := by kernel_rfl
theorem zero_19 : zeroOf Try.prog 19 = some [.pointer none] := by kernel_rfl
theorem bytes_19 : bytesOf Try.prog 19 = some 8 := by kernel_rfl
theorem field_19x0 : fieldOf Try.prog 19 0 = some (17, 0) := by kernel_rfl
theorem places_19 : placesOf Try.prog 19 = some [(0, 1)] := by kernel_rfl
attribute [simp] sz_19 agg_19 zero_19 bytes_19 field_19x0 places_19
theorem sz_20 : szOf Try.prog 20 = some 1 := by kernel_rfl
theorem agg_20 : aggOf Try.prog 20 = some false := by kernel_rfl
attribute [simp] sz_20 agg_20
theorem sz_21 : szOf Try.prog 21 = some 1 := by kernel_rfl
theorem agg_21 : aggOf Try.prog 21 = some false := by kernel_rfl
theorem zero_21 : zeroOf Try.prog 21 = some [.int .i32 0] := by kernel_rfl
theorem bytes_21 : bytesOf Try.prog 21 = some 4 := by kernel_rfl
theorem int_21 : intOfT Try.prog 21 = some .i32 := by kernel_rfl
theorem und_21 : (Try.prog.underlying 21).isSome = true := by kernel_rfl
attribute [simp] sz_21 agg_21 zero_21 bytes_21 int_21 und_21
theorem sz_22 : szOf Try.prog 22 = some 1 := by kernel_rfl
theorem agg_22 : aggOf Try.prog 22 = some false := by kernel_rfl
theorem zero_22 : zeroOf Try.prog 22 = some [.slice none 0 0] := by kernel_rfl
theorem bytes_22 : bytesOf Try.prog 22 = some 24 := by kernel_rfl
theorem elem_22 : elemOf Try.prog 22 = some 3 := by kernel_rfl
attribute [simp] sz_22 agg_22 zero_22 bytes_22 elem_22
theorem sz_23 : szOf Try.prog 23 = some 1 := by kernel_rfl
theorem agg_23 : aggOf Try.prog 23 = some false := by kernel_rfl
theorem zero_23 : zeroOf Try.prog 23 = some [.slice none 0 0] := by kernel_rfl
theorem bytes_23 : bytesOf Try.prog 23 = some 24 := by kernel_rfl
theorem elem_23 : elemOf Try.prog 23 = some 91 := by kernel_rfl
attribute [simp] sz_23 agg_23 zero_23 bytes_23 elem_23
theorem sz_24 : szOf Try.prog 24 = some 1 := by kernel_rfl
theorem agg_24 : aggOf Try.prog 24 = some false := by kernel_rfl
theorem zero_24 : zeroOf Try.prog 24 = some [.slice none 0 0] := by kernel_rfl
theorem bytes_24 : bytesOf Try.prog 24 = some 24 := by kernel_rfl
theorem elem_24 : elemOf Try.prog 24 = some 44 := by kernel_rfl
attribute [simp] sz_24 agg_24 zero_24 bytes_24 elem_24
theorem sz_25 : szOf Try.prog 25 = some 3 := by kernel_rfl
theorem agg_25 : aggOf Try.prog 25 = some true := by kernel_rfl
theorem zero_25 : zeroOf Try.prog 25 = some [.slice none 0 0, .slice none 0 0, .slice none 0 0] := by kernel_rfl
theorem bytes_25 : bytesOf Try.prog 25 = some 72 := by kernel_rfl
theorem field_25x0 : fieldOf Try.prog 25 0 = some (23, 0) := by kernel_rfl
theorem field_25x1 : fieldOf Try.prog 25 1 = some (22, 1) := by kernel_rfl
theorem field_25x2 : fieldOf Try.prog 25 2 = some (24, 2) := by kernel_rfl
theorem places_25 : placesOf Try.prog 25 = some [(0, 1), (1, 1), (2, 1)] := by kernel_rfl
attribute [simp] sz_25 agg_25 zero_25 bytes_25 field_25x0 field_25x1 field_25x2 places_25
theorem sz_26 : szOf Try.prog 26 = some 3 := by kernel_rfl
theorem agg_26 : aggOf Try.prog 26 = some true := by kernel_rfl
theorem zero_26 : zeroOf Try.prog 26 = some [.slice none 0 0, .slice none 0 0, .slice none 0 0] := by kernel_rfl
theorem bytes_26 : bytesOf Try.prog 26 = some 72 := by kernel_rfl
theorem field_26x0 : fieldOf Try.prog 26 0 = some (23, 0) := by kernel_rfl
theorem field_26x1 : fieldOf Try.prog 26 1 = some (22, 1) := by kernel_rfl
theorem field_26x2 : fieldOf Try.prog 26 2 = some (24, 2) := by kernel_rfl
theorem places_26 : placesOf Try.prog 26 = some [(0, 1), (1, 1), (2, 1)] := by kernel_rfl
attribute [simp] sz_26 agg_26 zero_26 bytes_26 field_26x0 field_26x1 field_26x2 places_26
theorem sz_27 : szOf Try.prog 27 = some 1 := by kernel_rfl
theorem agg_27 : aggOf Try.prog 27 = some false := by kernel_rfl
theorem zero_27 : zeroOf Try.prog 27 = some [.nilFunc] := by kernel_rfl
theorem bytes_27 : bytesOf Try.prog 27 = some 8 := by kernel_rfl
attribute [simp] sz_27 agg_27 zero_27 bytes_27
theorem sz_28 : szOf Try.prog 28 = some 1 := by kernel_rfl
theorem agg_28 : aggOf Try.prog 28 = some false := by kernel_rfl
theorem zero_28 : zeroOf Try.prog 28 = some [.nilFunc] := by kernel_rfl
theorem bytes_28 : bytesOf Try.prog 28 = some 8 := by kernel_rfl
attribute [simp] sz_28 agg_28 zero_28 bytes_28
theorem sz_29 : szOf Try.prog 29 = some 1 := by kernel_rfl
theorem agg_29 : aggOf Try.prog 29 = some false := by kernel_rfl
theorem zero_29 : zeroOf Try.prog 29 = some [.pointer none] := by kernel_rfl
theorem bytes_29 : bytesOf Try.prog 29 = some 8 := by kernel_rfl
theorem ptr_29 : isPtr Try.prog 29 = true := by kernel_rfl
attribute [simp] sz_29 agg_29 zero_29 bytes_29 ptr_29
theorem sz_30 : szOf Try.prog 30 = some 1 := by kernel_rfl
theorem agg_30 : aggOf Try.prog 30 = some false := by kernel_rfl
theorem zero_30 : zeroOf Try.prog 30 = some [.int .i64 0] := by kernel_rfl
theorem bytes_30 : bytesOf Try.prog 30 = some 8 := by kernel_rfl
theorem int_30 : intOfT Try.prog 30 = some .i64 := by kernel_rfl
theorem und_30 : (Try.prog.underlying 30).isSome = true := by kernel_rfl
attribute [simp] sz_30 agg_30 zero_30 bytes_30 int_30 und_30
theorem sz_32 : szOf Try.prog 32 = some 1 := by kernel_rfl
theorem agg_32 : aggOf Try.prog 32 = some false := by kernel_rfl
theorem zero_32 : zeroOf Try.prog 32 = some [.nilFunc] := by kernel_rfl
theorem bytes_32 : bytesOf Try.prog 32 = some 8 := by kernel_rfl
attribute [simp] sz_32 agg_32 zero_32 bytes_32
theorem sz_33 : szOf Try.prog 33 = some 1 := by kernel_rfl
theorem agg_33 : aggOf Try.prog 33 = some false := by kernel_rfl
theorem zero_33 : zeroOf Try.prog 33 = some [.nilFunc] := by kernel_rfl
theorem bytes_33 : bytesOf Try.prog 33 = some 8 := by kernel_rfl
attribute [simp] sz_33 agg_33 zero_33 bytes_33
theorem sz_34 : szOf Try.prog 34 = some 1 := by kernel_rfl
theorem agg_34 : aggOf Try.prog 34 = some false := by kernel_rfl
theorem zero_34 : zeroOf Try.prog 34 = some [.nilFunc] := by kernel_rfl
theorem bytes_34 : bytesOf Try.prog 34 = some 8 := by kernel_rfl
attribute [simp] sz_34 agg_34 zero_34 bytes_34
theorem sz_35 : szOf Try.prog 35 = some 1 := by kernel_rfl
theorem agg_35 : aggOf Try.prog 35 = some false := by kernel_rfl
theorem zero_35 : zeroOf Try.prog 35 = some [.slice none 0 0] := by kernel_rfl
theorem bytes_35 : bytesOf Try.prog 35 = some 24 := by kernel_rfl
theorem elem_35 : elemOf Try.prog 35 = some 22 := by kernel_rfl
attribute [simp] sz_35 agg_35 zero_35 bytes_35 elem_35
theorem sz_36 : szOf Try.prog 36 = some 1 := by kernel_rfl
theorem agg_36 : aggOf Try.prog 36 = some false := by kernel_rfl
theorem zero_36 : zeroOf Try.prog 36 = some [.nilFunc] := by kernel_rfl
theorem bytes_36 : bytesOf Try.prog 36 = some 8 := by kernel_rfl
attribute [simp] sz_36 agg_36 zero_36 bytes_36
theorem sz_37 : szOf Try.prog 37 = some 1 := by kernel_rfl
theorem agg_37 : aggOf Try.prog 37 = some false := by kernel_rfl
theorem zero_37 : zeroOf Try.prog 37 = some [.slice none 0 0] := by kernel_rfl
theorem bytes_37 : bytesOf Try.prog 37 = some 24 := by kernel_rfl
theorem elem_37 : elemOf Try.prog 37 = some 40 := by kernel_rfl
attribute [simp] sz_37 agg_37 zero_37 bytes_37 elem_37
theorem sz_38 : szOf Try.prog 38 = some 1 := by kernel_rfl
theorem agg_38 : aggOf Try.prog 38 = some false := by kernel_rfl
theorem zero_38 : zeroOf Try.prog 38 = some [.nilFunc] := by kernel_rfl
theorem bytes_38 : bytesOf Try.prog 38 = some 8 := by kernel_rfl
attribute [simp] sz_38 agg_38 zero_38 bytes_38
theorem sz_39 : szOf Try.prog 39 = some 2 := by kernel_rfl
theorem agg_39 : aggOf Try.prog 39 = some true := by kernel_rfl
theorem zero_39 : zeroOf Try.prog 39 = some [.int .i64 0, .int .i64 0] := by kernel_rfl
theorem bytes_39 : bytesOf Try.prog 39 = some 16 := by kernel_rfl
theorem eqf_39 : eqfOf Try.prog 39 = some [(3, 0), (3, 1)] := by kernel_rfl
theorem ng_39 : noGuard Try.prog 39 = true := by kernel_rfl
theorem field_39x0 : fieldOf Try.prog 39 0 = some (3, 0) := by kernel_rfl
theorem field_39x1 : fieldOf Try.prog 39 1 = some (3, 1) := by kernel_rfl
theorem places_39 : placesOf Try.prog 39 = some [(0, 1), (1, 1)] := by kernel_rfl
attribute [simp] sz_39 agg_39 zero_39 bytes_39 eqf_39 ng_39 field_39x0 field_39x1 places_39
theorem sz_40 : szOf Try.prog 40 = some 2 := by kernel_rfl
theorem agg_40 : aggOf Try.prog 40 = some true := by kernel_rfl
theorem zero_40 : zeroOf Try.prog 40 = some [.int .i64 0, .int .i64 0] := by kernel_rfl
theorem bytes_40 : bytesOf Try.prog 40 = some 16 := by kernel_rfl
theorem eqf_40 : eqfOf Try.prog 40 = some [(3, 0), (3, 1)] := by kernel_rfl
theorem ng_40 : noGuard Try.prog 40 = true := by kernel_rfl
theorem field_40x0 : fieldOf Try.prog 40 0 = some (3, 0) := by kernel_rfl
theorem field_40x1 : fieldOf Try.prog 40 1 = some (3, 1) := by kernel_rfl
theorem places_40 : placesOf Try.prog 40 = some [(0, 1), (1, 1)] := by kernel_rfl
attribute [simp] sz_40 agg_40 zero_40 bytes_40 eqf_40 ng_40 field_40x0 field_40x1 places_40
theorem sz_41 : szOf Try.prog 41 = some 1 := by kernel_rfl
theorem agg_41 : aggOf Try.prog 41 = some false := by kernel_rfl
theorem zero_41 : zeroOf Try.prog 41 = some [.nilFunc] := by kernel_rfl
theorem bytes_41 : bytesOf Try.prog 41 = some 8 := by kernel_rfl
attribute [simp] sz_41 agg_41 zero_41 bytes_41
theorem sz_42 : szOf Try.prog 42 = some 1 := by kernel_rfl
theorem agg_42 : aggOf Try.prog 42 = some false := by kernel_rfl
theorem zero_42 : zeroOf Try.prog 42 = some [.slice none 0 0] := by kernel_rfl
theorem bytes_42 : bytesOf Try.prog 42 = some 24 := by kernel_rfl
theorem elem_42 : elemOf Try.prog 42 = some 46 := by kernel_rfl
attribute [simp] sz_42 agg_42 zero_42 bytes_42 elem_42
theorem sz_43 : szOf Try.prog 43 = some 3 := by kernel_rfl
theorem agg_43 : aggOf Try.prog 43 = some true := by kernel_rfl
theorem zero_43 : zeroOf Try.prog 43 = some [.int .i64 0, .int .i64 0, .slice none 0 0] := by kernel_rfl
theorem bytes_43 : bytesOf Try.prog 43 = some 40 := by kernel_rfl
theorem field_43x0 : fieldOf Try.prog 43 0 = some (40, 0) := by kernel_rfl
theorem field_43x1 : fieldOf Try.prog 43 1 = some (42, 2) := by kernel_rfl
theorem places_43 : placesOf Try.prog 43 = some [(0, 2), (2, 1)] := by kernel_rfl
attribute [simp] sz_43 agg_43 zero_43 bytes_43 field_43x0 field_43x1 places_43
theorem sz_44 : szOf Try.prog 44 = some 3 := by kernel_rfl
theorem agg_44 : aggOf Try.prog 44 = some true := by kernel_rfl
theorem zero_44 : zeroOf Try.prog 44 = some [.int .i64 0, .int .i64 0, .slice none 0 0] := by kernel_rfl
theorem bytes_44 : bytesOf Try.prog 44 = some 40 := by kernel_rfl
theorem field_44x0 : fieldOf Try.prog 44 0 = some (40, 0) := by kernel_rfl
theorem field_44x1 : fieldOf Try.prog 44 1 = some (42, 2) := by kernel_rfl
theorem places_44 : placesOf Try.prog 44 = some [(0, 2), (2, 1)] := by kernel_rfl
attribute [simp] sz_44 agg_44 zero_44 bytes_44 field_44x0 field_44x1 places_44
theorem sz_45 : szOf Try.prog 45 = some 2 := by kernel_rfl
theorem agg_45 : aggOf Try.prog 45 = some true := by kernel_rfl
theorem zero_45 : zeroOf Try.prog 45 = some [.int .i64 0, .slice none 0 0] := by kernel_rfl
theorem bytes_45 : bytesOf Try.prog 45 = some 32 := by kernel_rfl
theorem field_45x0 : fieldOf Try.prog 45 0 = some (3, 0) := by kernel_rfl
theorem field_45x1 : fieldOf Try.prog 45 1 = some (22, 1) := by kernel_rfl
theorem places_45 : placesOf Try.prog 45 = some [(0, 1), (1, 1)] := by kernel_rfl
attribute [simp] sz_45 agg_45 zero_45 bytes_45 field_45x0 field_45x1 places_45
theorem sz_46 : szOf Try.prog 46 = some 2 := by kernel_rfl
theorem agg_46 : aggOf Try.prog 46 = some true := by kernel_rfl
theorem zero_46 : zeroOf Try.prog 46 = some [.int .i64 0, .slice none 0 0] := by kernel_rfl
theorem bytes_46 : bytesOf Try.prog 46 = some 32 := by kernel_rfl
theorem field_46x0 : fieldOf Try.prog 46 0 = some (3, 0) := by kernel_rfl
theorem field_46x1 : fieldOf Try.prog 46 1 = some (22, 1) := by kernel_rfl
theorem places_46 : placesOf Try.prog 46 = some [(0, 1), (1, 1)] := by kernel_rfl
attribute [simp] sz_46 agg_46 zero_46 bytes_46 field_46x0 field_46x1 places_46
theorem sz_47 : szOf Try.prog 47 = some 1 := by kernel_rfl
theorem agg_47 : aggOf Try.prog 47 = some false := by kernel_rfl
theorem zero_47 : zeroOf Try.prog 47 = some [.nilFunc] := by kernel_rfl
theorem bytes_47 : bytesOf Try.prog 47 = some 8 := by kernel_rfl
attribute [simp] sz_47 agg_47 zero_47 bytes_47
theorem sz_48 : szOf Try.prog 48 = some 1 := by kernel_rfl
theorem agg_48 : aggOf Try.prog 48 = some false := by kernel_rfl
theorem zero_48 : zeroOf Try.prog 48 = some [.nilFunc] := by kernel_rfl
theorem bytes_48 : bytesOf Try.prog 48 = some 8 := by kernel_rfl
attribute [simp] sz_48 agg_48 zero_48 bytes_48
theorem sz_49 : szOf Try.prog 49 = some 1 := by kernel_rfl
theorem agg_49 : aggOf Try.prog 49 = some false := by kernel_rfl
theorem zero_49 : zeroOf Try.prog 49 = some [.nilFunc] := by kernel_rfl
theorem bytes_49 : bytesOf Try.prog 49 = some 8 := by kernel_rfl
attribute [simp] sz_49 agg_49 zero_49 bytes_49
theorem sz_50 : szOf Try.prog 50 = some 1 := by kernel_rfl
theorem agg_50 : aggOf Try.prog 50 = some false := by kernel_rfl
theorem zero_50 : zeroOf Try.prog 50 = some [.nilFunc] := by kernel_rfl
theorem bytes_50 : bytesOf Try.prog 50 = some 8 := by kernel_rfl
attribute [simp] sz_50 agg_50 zero_50 bytes_50
theorem sz_51 : szOf Try.prog 51 = some 1 := by kernel_rfl
theorem agg_51 : aggOf Try.prog 51 = some false := by kernel_rfl
theorem zero_51 : zeroOf Try.prog 51 = some [.nilFunc] := by kernel_rfl
theorem bytes_51 : bytesOf Try.prog 51 = some 8 := by kernel_rfl
attribute [simp] sz_51 agg_51 zero_51 bytes_51
theorem sz_52 : szOf Try.prog 52 = some 1 := by kernel_rfl
theorem agg_52 : aggOf Try.prog 52 = some false := by kernel_rfl
theorem zero_52 : zeroOf Try.prog 52 = some [.nilFunc] := by kernel_rfl
theorem bytes_52 : bytesOf Try.prog 52 = some 8 := by kernel_rfl
attribute [simp] sz_52 agg_52 zero_52 bytes_52
theorem sz_53 : szOf Try.prog 53 = some 1 := by kernel_rfl
theorem agg_53 : aggOf Try.prog 53 = some false := by kernel_rfl
theorem zero_53 : zeroOf Try.prog 53 = some [.nilFunc] := by kernel_rfl
theorem bytes_53 : bytesOf Try.prog 53 = some 8 := by kernel_rfl
attribute [simp] sz_53 agg_53 zero_53 bytes_53
theorem sz_54 : szOf Try.prog 54 = some 1 := by kernel_rfl
theorem agg_54 : aggOf Try.prog 54 = some false := by kernel_rfl
theorem zero_54 : zeroOf Try.prog 54 = some [.nilFunc] := by kernel_rfl
theorem bytes_54 : bytesOf Try.prog 54 = some 8 := by kernel_rfl
attribute [simp] sz_54 agg_54 zero_54 bytes_54
theorem sz_55 : szOf Try.prog 55 = some 1 := by kernel_rfl
theorem agg_55 : aggOf Try.prog 55 = some false := by kernel_rfl
theorem zero_55 : zeroOf Try.prog 55 = some [.nilFunc] := by kernel_rfl
theorem bytes_55 : bytesOf Try.prog 55 = some 8 := by kernel_rfl
attribute [simp] sz_55 agg_55 zero_55 bytes_55
theorem sz_56 : szOf Try.prog 56 = some 1 := by kernel_rfl
theorem agg_56 : aggOf Try.prog 56 = some false := by kernel_rfl
theorem zero_56 : zeroOf Try.prog 56 = some [.pointer none] := by kernel_rfl
theorem bytes_56 : bytesOf Try.prog 56 = some 8 := by kernel_rfl
theorem ptr_56 : isPtr Try.prog 56 = true := by kernel_rfl
attribute [simp] sz_56 agg_56 zero_56 bytes_56 ptr_56
theorem sz_57 : szOf Try.prog 57 = some 1 := by kernel_rfl
theorem agg_57 : aggOf Try.prog 57 = some true := by kernel_rfl
theorem zero_57 : zeroOf Try.prog 57 = some [.slice none 0 0] := by kernel_rfl
theorem bytes_57 : bytesOf Try.prog 57 = some 24 := by kernel_rfl
theorem field_57x0 : fieldOf Try.prog 57 0 = some (22, 0) := by kernel_rfl
theorem places_57 : placesOf Try.prog 57 = some [(0, 1)] := by kernel_rfl
attribute [simp] sz_57 agg_57 zero_57 bytes_57 field_57x0 places_57
theorem sz_58 : szOf Try.prog 58 = some 1 := by kernel_rfl
theorem agg_58 : aggOf Try.prog 58 = some true := by kernel_rfl
theorem zero_58 : zeroOf Try.prog 58 = some [.slice none 0 0] := by kernel_rfl
theorem bytes_58 : bytesOf Try.prog 58 = some 24 := by kernel_rfl
theorem field_58x0 : fieldOf Try.prog 58 0 = some (22, 0) := by kernel_rfl
theorem places_58 : placesOf Try.prog 58 = some [(0, 1)] := by kernel_rfl
attribute [simp] sz_58 agg_58 zero_58 bytes_58 field_58x0 places_58
theorem sz_59 : szOf Try.prog 59 = some 1 := by kernel_rfl
theorem agg_59 : aggOf Try.prog 59 = some false := by kernel_rfl
theorem zero_59 : zeroOf Try.prog 59 = some [.nilFunc] := by kernel_rfl
theorem bytes_59 : bytesOf Try.prog 59 = some 8 := by kernel_rfl
attribute [simp] sz_59 agg_59 zero_59 bytes_59
theorem sz_60 : szOf Try.prog 60 = some 1 := by kernel_rfl
theorem agg_60 : aggOf Try.prog 60 = some false := by kernel_rfl
theorem zero_60 : zeroOf Try.prog 60 = some [.nilFunc] := by kernel_rfl
theorem bytes_60 : bytesOf Try.prog 60 = some 8 := by kernel_rfl
attribute [simp] sz_60 agg_60 zero_60 bytes_60
theorem sz_61 : szOf Try.prog 61 = some 1 := by kernel_rfl
theorem agg_61 : aggOf Try.prog 61 = some false := by kernel_rfl
theorem zero_61 : zeroOf Try.prog 61 = some [.nilFunc] := by kernel_rfl
theorem bytes_61 : bytesOf Try.prog 61 = some 8 := by kernel_rfl
attribute [simp] sz_61 agg_61 zero_61 bytes_61
theorem sz_62 : szOf Try.prog 62 = some 1 := by kernel_rfl
theorem agg_62 : aggOf Try.prog 62 = some false := by kernel_rfl
theorem zero_62 : zeroOf Try.prog 62 = some [.nilFunc] := by kernel_rfl
theorem bytes_62 : bytesOf Try.prog 62 = some 8 := by kernel_rfl
attribute [simp] sz_62 agg_62 zero_62 bytes_62
theorem sz_63 : szOf Try.prog 63 = some 1 := by kernel_rfl
theorem agg_63 : aggOf Try.prog 63 = some false := by kernel_rfl
theorem zero_63 : zeroOf Try.prog 63 = some [.nilFunc] := by kernel_rfl
theorem bytes_63 : bytesOf Try.prog 63 = some 8 := by kernel_rfl
attribute [simp] sz_63 agg_63 zero_63 bytes_63
theorem sz_64 : szOf Try.prog 64 = some 1 := by kernel_rfl
theorem agg_64 : aggOf Try.prog 64 = some false := by kernel_rfl
theorem zero_64 : zeroOf Try.prog 64 = some [.nilFunc] := by kernel_rfl
theorem bytes_64 : bytesOf Try.prog 64 = some 8 := by kernel_rfl
attribute [simp] sz_64 agg_64 zero_64 bytes_64
theorem sz_65 : szOf Try.prog 65 = some 1 := by kernel_rfl
theorem agg_65 : aggOf Try.prog 65 = some false := by kernel_rfl
theorem zero_65 : zeroOf Try.prog 65 = some [.map none] := by kernel_rfl
theorem bytes_65 : bytesOf Try.prog 65 = some 8 := by kernel_rfl
theorem mapkv_65 : mapKV Try.prog 65 = some (.i64, 74) := by kernel_rfl
theorem zeropv_74 : zeroPV Try.prog 74 = some (.k (.pointer none)) := by kernel_rfl
attribute [simp] sz_65 agg_65 zero_65 bytes_65 mapkv_65 zeropv_74
theorem sz_66 : szOf Try.prog 66 = some 1 := by kernel_rfl
theorem agg_66 : aggOf Try.prog 66 = some false := by kernel_rfl
theorem zero_66 : zeroOf Try.prog 66 = some [.slice none 0 0] := by kernel_rfl
theorem bytes_66 : bytesOf Try.prog 66 = some 24 := by kernel_rfl
theorem elem_66 : elemOf Try.prog 66 = some 74 := by kernel_rfl
attribute [simp] sz_66 agg_66 zero_66 bytes_66 elem_66
theorem sz_67 : szOf Try.prog 67 = some 4 := by kernel_rfl
theorem agg_67 : aggOf Try.prog 67 = some true := by kernel_rfl
theorem zero_67 : zeroOf Try.prog 67 = some [.slice none 0 0, .slice none 0 0, .slice none 0 0, .map none] := by kernel_rfl
theorem bytes_67 : bytesOf Try.prog 67 = some 80 := by kernel_rfl
theorem field_67x0 : fieldOf Try.prog 67 0 = some (23, 0) := by kernel_rfl
theorem field_67x1 : fieldOf Try.prog 67 1 = some (22, 1) := by kernel_rfl
theorem field_67x2 : fieldOf Try.prog 67 2 = some (66, 2) := by kernel_rfl
theorem field_67x3 : fieldOf Try.prog 67 3 = some (65, 3) := by kernel_rfl
theorem places_67 : placesOf Try.prog 67 = some [(0, 1), (1, 1), (2, 1), (3, 1)] := by kernel_rfl
attribute [simp] sz_67 agg_67 zero_67 bytes_67 field_67x0 field_67x1 field_67x2 field_67x3 places_67
theorem sz_68 : szOf Try.prog 68 = some 4 := by kernel_rfl
theorem agg_68 : aggOf Try.prog 68 = some true := by kernel_rfl
theorem zero_68 : zeroOf Try.prog 68 = some [.slice none 0 0, .slice none 0 0, .slice none 0 0, .map none] := by kernel_rfl
theorem bytes_68 : bytesOf Try.prog 68 = some 80 := by kernel_rfl
theorem field_68x0 : fieldOf Try.prog 68 0 = some (23, 0) := by kernel_rfl
theorem field_68x1 : fieldOf Try.prog 68 1 = some (22, 1) := by kernel_rfl
theorem field_68x2 : fieldOf Try.prog 68 2 = some (66, 2) := by kernel_rfl
theorem field_68x3 : fieldOf Try.prog 68 3 = some (65, 3) := by kernel_rfl
theorem places_68 : placesOf Try.prog 68 = some [(0, 1), (1, 1), (2, 1), (3, 1)] := by kernel_rfl
attribute [simp] sz_68 agg_68 zero_68 bytes_68 field_68x0 field_68x1 field_68x2 field_68x3 places_68
theorem sz_69 : szOf Try.prog 69 = some 1 := by kernel_rfl
theorem agg_69 : aggOf Try.prog 69 = some false := by kernel_rfl
theorem zero_69 : zeroOf Try.prog 69 = some [.nilFunc] := by kernel_rfl
theorem bytes_69 : bytesOf Try.prog 69 = some 8 := by kernel_rfl
attribute [simp] sz_69 agg_69 zero_69 bytes_69
theorem sz_70 : szOf Try.prog 70 = some 1 := by kernel_rfl
theorem agg_70 : aggOf Try.prog 70 = some false := by kernel_rfl
theorem zero_70 : zeroOf Try.prog 70 = some [.nilFunc] := by kernel_rfl
theorem bytes_70 : bytesOf Try.prog 70 = some 8 := by kernel_rfl
attribute [simp] sz_70 agg_70 zero_70 bytes_70
theorem sz_71 : szOf Try.prog 71 = some 1 := by kernel_rfl
theorem agg_71 : aggOf Try.prog 71 = some false := by kernel_rfl
theorem zero_71 : zeroOf Try.prog 71 = some [.nilFunc] := by kernel_rfl
theorem bytes_71 : bytesOf Try.prog 71 = some 8 := by kernel_rfl
attribute [simp] sz_71 agg_71 zero_71 bytes_71
theorem sz_72 : szOf Try.prog 72 = some 1 := by kernel_rfl
theorem agg_72 : aggOf Try.prog 72 = some false := by kernel_rfl
theorem zero_72 : zeroOf Try.prog 72 = some [.nilFunc] := by kernel_rfl
theorem bytes_72 : bytesOf Try.prog 72 = some 8 := by kernel_rfl
attribute [simp] sz_72 agg_72 zero_72 bytes_72
theorem sz_73 : szOf Try.prog 73 = some 1 := by kernel_rfl
theorem agg_73 : aggOf Try.prog 73 = some false := by kernel_rfl
theorem zero_73 : zeroOf Try.prog 73 = some [.nilFunc] := by kernel_rfl
theorem bytes_73 : bytesOf Try.prog 73 = some 8 := by kernel_rfl
attribute [simp] sz_73 agg_73 zero_73 bytes_73
theorem sz_74 : szOf Try.prog 74 = some 1 := by kernel_rfl
theorem agg_74 : aggOf Try.prog 74 = some false := by kernel_rfl
theorem zero_74 : zeroOf Try.prog 74 = some [.pointer none] := by kernel_rfl
theorem bytes_74 : bytesOf Try.prog 74 = some 8 := by kernel_rfl
theorem ptr_74 : isPtr Try.prog 74 = true := by kernel_rfl
attribute [simp] sz_74 agg_74 zero_74 bytes_74 ptr_74
theorem sz_75 : szOf Try.prog 75 = some 1 := by kernel_rfl
theorem agg_75 : aggOf Try.prog 75 = some false := by kernel_rfl
theorem zero_75 : zeroOf Try.prog 75 = some [.nilFunc] := by kernel_rfl
theorem bytes_75 : bytesOf Try.prog 75 = some 8 := by kernel_rfl
attribute [simp] sz_75 agg_75 zero_75 bytes_75
theorem sz_76 : szOf Try.prog 76 = some 1 := by kernel_rfl
theorem agg_76 : aggOf Try.prog 76 = some false := by kernel_rfl
theorem zero_76 : zeroOf Try.prog 76 = some [.nilFunc] := by kernel_rfl
theorem bytes_76 : bytesOf Try.prog 76 = some 8 := by kernel_rfl
attribute [simp] sz_76 agg_76 zero_76 bytes_76
theorem sz_77 : szOf Try.prog 77 = some 1 := by kernel_rfl
theorem agg_77 : aggOf Try.prog 77 = some false := by kernel_rfl
theorem zero_77 : zeroOf Try.prog 77 = some [.pointer none] := by kernel_rfl
theorem bytes_77 : bytesOf Try.prog 77 = some 8 := by kernel_rfl
theorem ptr_77 : isPtr Try.prog 77 = true := by kernel_rfl
attribute [simp] sz_77 agg_77 zero_77 bytes_77 ptr_77
theorem sz_78 : szOf Try.prog 78 = some 1 := by kernel_rfl
theorem agg_78 : aggOf Try.prog 78 = some false := by kernel_rfl
theorem zero_78 : zeroOf Try.prog 78 = some [.slice none 0 0] := by kernel_rfl
theorem bytes_78 : bytesOf Try.prog 78 = some 24 := by kernel_rfl
theorem elem_78 : elemOf Try.prog 78 = some 109 := by kernel_rfl
attribute [simp] sz_78 agg_78 zero_78 bytes_78 elem_78
theorem sz_79 : szOf Try.prog 79 = some 3 := by kernel_rfl
theorem agg_79 : aggOf Try.prog 79 = some true := by kernel_rfl
theorem zero_79 : zeroOf Try.prog 79 = some [.slice none 0 0, .pointer none, .slice none 0 0] := by kernel_rfl
theorem bytes_79 : bytesOf Try.prog 79 = some 56 := by kernel_rfl
theorem field_79x0 : fieldOf Try.prog 79 0 = some (22, 0) := by kernel_rfl
theorem field_79x1 : fieldOf Try.prog 79 1 = some (77, 1) := by kernel_rfl
theorem field_79x2 : fieldOf Try.prog 79 2 = some (78, 2) := by kernel_rfl
theorem places_79 : placesOf Try.prog 79 = some [(0, 1), (1, 1), (2, 1)] := by kernel_rfl
attribute [simp] sz_79 agg_79 zero_79 bytes_79 field_79x0 field_79x1 field_79x2 places_79
theorem sz_80 : szOf Try.prog 80 = some 3 := by kernel_rfl
theorem agg_80 : aggOf Try.prog 80 = some true := by kernel_rfl
theorem zero_80 : zeroOf Try.prog 80 = some [.slice none 0 0, .pointer none, .slice none 0 0] := by kernel_rfl
theorem bytes_80 : bytesOf Try.prog 80 = some 56 := by kernel_rfl
theorem field_80x0 : fieldOf Try.prog 80 0 = some (22, 0) := by kernel_rfl
theorem field_80x1 : fieldOf Try.prog 80 1 = some (77, 1) := by kernel_rfl
theorem field_80x2 : fieldOf Try.prog 80 2 = some (78, 2) := by kernel_rfl
theorem places_80 : placesOf Try.prog 80 = some [(0, 1), (1, 1), (2, 1)] := by kernel_rfl
attribute [simp] sz_80 agg_80 zero_80 bytes_80 field_80x0 field_80x1 field_80x2 places_80
theorem sz_81 : szOf Try.prog 81 = some 1 := by kernel_rfl
theorem agg_81 : aggOf Try.prog 81 = some false := by kernel_rfl
theorem zero_81 : zeroOf Try.prog 81 = some [.nilFunc] := by kernel_rfl
theorem bytes_81 : bytesOf Try.prog 81 = some 8 := by kernel_rfl
attribute [simp] sz_81 agg_81 zero_81 bytes_81
theorem sz_82 : szOf Try.prog 82 = some 1 := by kernel_rfl
theorem agg_82 : aggOf Try.prog 82 = some false := by kernel_rfl
theorem zero_82 : zeroOf Try.prog 82 = some [.nilFunc] := by kernel_rfl
theorem bytes_82 : bytesOf Try.prog 82 = some 8 := by kernel_rfl
attribute [simp] sz_82 agg_82 zero_82 bytes_82
theorem sz_83 : szOf Try.prog 83 = some 1 := by kernel_rfl
theorem agg_83 : aggOf Try.prog 83 = some false := by kernel_rfl
theorem zero_83 : zeroOf Try.prog 83 = some [.nilFunc] := by kernel_rfl
theorem bytes_83 : bytesOf Try.prog 83 = some 8 := by kernel_rfl
attribute [simp] sz_83 agg_83 zero_83 bytes_83
theorem sz_84 : szOf Try.prog 84 = some 1 := by kernel_rfl
theorem agg_84 : aggOf Try.prog 84 = some false := by kernel_rfl
theorem zero_84 : zeroOf Try.prog 84 = some [.nilFunc] := by kernel_rfl
theorem bytes_84 : bytesOf Try.prog 84 = some 8 := by kernel_rfl
attribute [simp] sz_84 agg_84 zero_84 bytes_84
theorem sz_85 : szOf Try.prog 85 = some 1 := by kernel_rfl
theorem agg_85 : aggOf Try.prog 85 = some false := by kernel_rfl
theorem zero_85 : zeroOf Try.prog 85 = some [.nilFunc] := by kernel_rfl
theorem bytes_85 : bytesOf Try.prog 85 = some 8 := by kernel_rfl
attribute [simp] sz_85 agg_85 zero_85 bytes_85
theorem sz_86 : szOf Try.prog 86 = some 1 := by kernel_rfl
theorem agg_86 : aggOf Try.prog 86 = some false := by kernel_rfl
theorem zero_86 : zeroOf Try.prog 86 = some [.nilFunc] := by kernel_rfl
theorem bytes_86 : bytesOf Try.prog 86 = some 8 := by kernel_rfl
attribute [simp] sz_86 agg_86 zero_86 bytes_86
theorem sz_87 : szOf Try.prog 87 = some 3 := by kernel_rfl
theorem agg_87 : aggOf Try.prog 87 = some true := by kernel_rfl
theorem zero_87 : zeroOf Try.prog 87 = some [.string ⟨#[]⟩, .int .i64 0, .int .i64 0] := by kernel_rfl
theorem bytes_87 : bytesOf Try.prog 87 = some 32 := by kernel_rfl
theorem eqf_87 : eqfOf Try.prog 87 = some [(9, 0), (3, 1), (3, 2)] := by kernel_rfl
theorem ng_87 : noGuard Try.prog 87 = true := by kernel_rfl
theorem field_87x0 : fieldOf Try.prog 87 0 = some (9, 0) := by kernel_rfl
theorem field_87x1 : fieldOf Try.prog 87 1 = some (3, 1) := by kernel_rfl
theorem field_87x2 : fieldOf Try.prog 87 2 = some (3, 2) := by kernel_rfl
theorem places_87 : placesOf Try.prog 87 = some [(0, 1), (1, 1), (2, 1)] := by kernel_rfl
attribute [simp] sz_87 agg_87 zero_87 bytes_87 eqf_87 ng_87 field_87x0 field_87x1 field_87x2 places_87
theorem sz_88 : szOf Try.prog 88 = some 3 := by kernel_rfl
theorem agg_88 : aggOf Try.prog 88 = some true := by kernel_rfl
theorem zero_88 : zeroOf Try.prog 88 = some [.string ⟨#[]⟩, .int .i64 0, .int .i64 0] := by kernel_rfl
theorem bytes_88 : bytesOf Try.prog 88 = some 32 := by kernel_rfl
theorem eqf_88 : eqfOf Try.prog 88 = some [(9, 0), (3, 1), (3, 2)] := by kernel_rfl
theorem ng_88 : noGuard Try.prog 88 = true := by kernel_rfl
theorem field_88x0 : fieldOf Try.prog 88 0 = some (9, 0) := by kernel_rfl
theorem field_88x1 : fieldOf Try.prog 88 1 = some (3, 1) := by kernel_rfl
theorem field_88x2 : fieldOf Try.prog 88 2 = some (3, 2) := by kernel_rfl
theorem places_88 : placesOf Try.prog 88 = some [(0, 1), (1, 1), (2, 1)] := by kernel_rfl
attribute [simp] sz_88 agg_88 zero_88 bytes_88 eqf_88 ng_88 field_88x0 field_88x1 field_88x2 places_88
theorem sz_89 : szOf Try.prog 89 = some 1 := by kernel_rfl
theorem agg_89 : aggOf Try.prog 89 = some false := by kernel_rfl
theorem zero_89 : zeroOf Try.prog 89 = some [.slice none 0 0] := by kernel_rfl
theorem bytes_89 : bytesOf Try.prog 89 = some 24 := by kernel_rfl
theorem elem_89 : elemOf Try.prog 89 = some 88 := by kernel_rfl
attribute [simp] sz_89 agg_89 zero_89 bytes_89 elem_89
theorem sz_90 : szOf Try.prog 90 = some 2 := by kernel_rfl
theorem agg_90 : aggOf Try.prog 90 = some true := by kernel_rfl
theorem zero_90 : zeroOf Try.prog 90 = some [.string ⟨#[]⟩, .slice none 0 0] := by kernel_rfl
theorem bytes_90 : bytesOf Try.prog 90 = some 40 := by kernel_rfl
theorem field_90x0 : fieldOf Try.prog 90 0 = some (9, 0) := by kernel_rfl
theorem field_90x1 : fieldOf Try.prog 90 1 = some (89, 1) := by kernel_rfl
theorem places_90 : placesOf Try.prog 90 = some [(0, 1), (1, 1)] := by kernel_rfl
attribute [simp] sz_90 agg_90 zero_90 bytes_90 field_90x0 field_90x1 places_90
theorem sz_91 : szOf Try.prog 91 = some 2 := by kernel_rfl
theorem agg_91 : aggOf Try.prog 91 = some true := by kernel_rfl
theorem zero_91 : zeroOf Try.prog 91 = some [.string ⟨#[]⟩, .slice none 0 0] := by kernel_rfl
theorem bytes_91 : bytesOf Try.prog 91 = some 40 := by kernel_rfl
theorem field_91x0 : fieldOf Try.prog 91 0 = some (9, 0) := by kernel_rfl
theorem field_91x1 : fieldOf Try.prog 91 1 = some (89, 1) := by kernel_rfl
theorem places_91 : placesOf Try.prog 91 = some [(0, 1), (1, 1)] := by kernel_rfl
attribute [simp] sz_91 agg_91 zero_91 bytes_91 field_91x0 field_91x1 places_91
theorem sz_92 : szOf Try.prog 92 = some 1 := by kernel_rfl
theorem agg_92 : aggOf Try.prog 92 = some false := by kernel_rfl
theorem zero_92 : zeroOf Try.prog 92 = some [.slice none 0 0] := by kernel_rfl
theorem bytes_92 : bytesOf Try.prog 92 = some 24 := by kernel_rfl
theorem elem_92 : elemOf Try.prog 92 = some 95 := by kernel_rfl
attribute [simp] sz_92 agg_92 zero_92 bytes_92 elem_92
theorem sz_93 : szOf Try.prog 93 = some 1 := by kernel_rfl
theorem agg_93 : aggOf Try.prog 93 = some false := by kernel_rfl
theorem zero_93 : zeroOf Try.prog 93 = some [.nilFunc] := by kernel_rfl
theorem bytes_93 : bytesOf Try.prog 93 = some 8 := by kernel_rfl
attribute [simp] sz_93 agg_93 zero_93 bytes_93
theorem sz_94 : szOf Try.prog 94 = some 4 := by kernel_rfl
theorem agg_94 : aggOf Try.prog 94 = some true := by kernel_rfl
theorem zero_94 : zeroOf Try.prog 94 = some [.int .i64 0, .int .i64 0, .int .i64 0, .slice none 0 0] := by kernel_rfl
theorem bytes_94 : bytesOf Try.prog 94 = some 48 := by kernel_rfl
theorem field_94x0 : fieldOf Try.prog 94 0 = some (3, 0) := by kernel_rfl
theorem field_94x1 : fieldOf Try.prog 94 1 = some (44, 1) := by kernel_rfl
theorem places_94 : placesOf Try.prog 94 = some [(0, 1), (1, 3)] := by kernel_rfl
attribute [simp] sz_94 agg_94 zero_94 bytes_94 field_94x0 field_94x1 places_94
theorem sz_95 : szOf Try.prog 95 = some 4 := by kernel_rfl
theorem agg_95 : aggOf Try.prog 95 = some true := by kernel_rfl
theorem zero_95 : zeroOf Try.prog 95 = some [.int .i64 0, .int .i64 0, .int .i64 0, .slice none 0 0] := by kernel_rfl
theorem bytes_95 : bytesOf Try.prog 95 = some 48 := by kernel_rfl
theorem field_95x0 : fieldOf Try.prog 95 0 = some (3, 0) := by kernel_rfl
theorem field_95x1 : fieldOf Try.prog 95 1 = some (44, 1) := by kernel_rfl
theorem places_95 : placesOf Try.prog 95 = some [(0, 1), (1, 3)] := by kernel_rfl
attribute [simp] sz_95 agg_95 zero_95 bytes_95 field_95x0 field_95x1 places_95
theorem sz_96 : szOf Try.prog 96 = some 1 := by kernel_rfl
theorem agg_96 : aggOf Try.prog 96 = some false := by kernel_rfl
theorem zero_96 : zeroOf Try.prog 96 = some [.nilFunc] := by kernel_rfl
theorem bytes_96 : bytesOf Try.prog 96 = some 8 := by kernel_rfl
attribute [simp] sz_96 agg_96 zero_96 bytes_96
theorem sz_97 : szOf Try.prog 97 = some 1 := by kernel_rfl
theorem agg_97 : aggOf Try.prog 97 = some false := by kernel_rfl
theorem zero_97 : zeroOf Try.prog 97 = some [.nilFunc] := by kernel_rfl
theorem bytes_97 : bytesOf Try.prog 97 = some 8 := by kernel_rfl
attribute [simp] sz_97 agg_97 zero_97 bytes_97
theorem sz_98 : szOf Try.prog 98 = some 1 := by kernel_rfl
theorem agg_98 : aggOf Try.prog 98 = some false := by kernel_rfl
theorem zero_98 : zeroOf Try.prog 98 = some [.nilFunc] := by kernel_rfl
theorem bytes_98 : bytesOf Try.prog 98 = some 8 := by kernel_rfl
attribute [simp] sz_98 agg_98 zero_98 bytes_98
theorem sz_99 : szOf Try.prog 99 = some 1 := by kernel_rfl
theorem agg_99 : aggOf Try.prog 99 = some false := by kernel_rfl
theorem zero_99 : zeroOf Try.prog 99 = some [.nilFunc] := by kernel_rfl
theorem bytes_99 : bytesOf Try.prog 99 = some 8 := by kernel_rfl
attribute [simp] sz_99 agg_99 zero_99 bytes_99
theorem sz_100 : szOf Try.prog 100 = some 1 := by kernel_rfl
theorem agg_100 : aggOf Try.prog 100 = some false := by kernel_rfl
theorem zero_100 : zeroOf Try.prog 100 = some [.slice none 0 0] := by kernel_rfl
theorem bytes_100 : bytesOf Try.prog 100 = some 24 := by kernel_rfl
theorem elem_100 : elemOf Try.prog 100 = some 9 := by kernel_rfl
attribute [simp] sz_100 agg_100 zero_100 bytes_100 elem_100
theorem sz_101 : szOf Try.prog 101 = some 1 := by kernel_rfl
theorem agg_101 : aggOf Try.prog 101 = some false := by kernel_rfl
theorem zero_101 : zeroOf Try.prog 101 = some [.nilFunc] := by kernel_rfl
theorem bytes_101 : bytesOf Try.prog 101 = some 8 := by kernel_rfl
attribute [simp] sz_101 agg_101 zero_101 bytes_101
theorem sz_102 : szOf Try.prog 102 = some 1 := by kernel_rfl
theorem agg_102 : aggOf Try.prog 102 = some false := by kernel_rfl
theorem zero_102 : zeroOf Try.prog 102 = some [.nilFunc] := by kernel_rfl
theorem bytes_102 : bytesOf Try.prog 102 = some 8 := by kernel_rfl
attribute [simp] sz_102 agg_102 zero_102 bytes_102
theorem sz_103 : szOf Try.prog 103 = some 1 := by kernel_rfl
theorem agg_103 : aggOf Try.prog 103 = some false := by kernel_rfl
theorem zero_103 : zeroOf Try.prog 103 = some [.nilFunc] := by kernel_rfl
theorem bytes_103 : bytesOf Try.prog 103 = some 8 := by kernel_rfl
attribute [simp] sz_103 agg_103 zero_103 bytes_103
theorem sz_105 : szOf Try.prog 105 = some 1 := by kernel_rfl
theorem agg_105 : aggOf Try.prog 105 = some false := by kernel_rfl
theorem zero_105 : zeroOf Try.prog 105 = some [.nilFunc] := by kernel_rfl
theorem bytes_105 : bytesOf Try.prog 105 = some 8 := by kernel_rfl
attribute [simp] sz_105 agg_105 zero_105 bytes_105
theorem sz_106 : szOf Try.prog 106 = some 1 := by kernel_rfl
theorem agg_106 : aggOf Try.prog 106 = some false := by kernel_rfl
theorem zero_106 : zeroOf Try.prog 106 = some [.nilFunc] := by kernel_rfl
theorem bytes_106 : bytesOf Try.prog 106 = some 8 := by kernel_rfl
attribute [simp] sz_106 agg_106 zero_106 bytes_106
theorem sz_107 : szOf Try.prog 107 = some 1 := by kernel_rfl
theorem agg_107 : aggOf Try.prog 107 = some false := by kernel_rfl
theorem zero_107 : zeroOf Try.prog 107 = some [.nilFunc] := by kernel_rfl
theorem bytes_107 : bytesOf Try.prog 107 = some 8 := by kernel_rfl
attribute [simp] sz_107 agg_107 zero_107 bytes_107
theorem sz_108 : szOf Try.prog 108 = some 1 := by kernel_rfl
theorem agg_108 : aggOf Try.prog 108 = some false := by kernel_rfl
theorem zero_108 : zeroOf Try.prog 108 = some [.nilFunc] := by kernel_rfl
theorem bytes_108 : bytesOf Try.prog 108 = some 8 := by kernel_rfl
attribute [simp] sz_108 agg_108 zero_108 bytes_108
theorem sz_109 : szOf Try.prog 109 = some 1 := by kernel_rfl
theorem agg_109 : aggOf Try.prog 109 = some false := by kernel_rfl
theorem zero_109 : zeroOf Try.prog 109 = some [.pointer none] := by kernel_rfl
theorem bytes_109 : bytesOf Try.prog 109 = some 8 := by kernel_rfl
theorem ptr_109 : isPtr Try.prog 109 = true := by kernel_rfl
attribute [simp] sz_109 agg_109 zero_109 bytes_109 ptr_109
theorem sz_110 : szOf Try.prog 110 = some 1 := by kernel_rfl
theorem agg_110 : aggOf Try.prog 110 = some false := by kernel_rfl
theorem zero_110 : zeroOf Try.prog 110 = some [.nilFunc] := by kernel_rfl
theorem bytes_110 : bytesOf Try.prog 110 = some 8 := by kernel_rfl
attribute [simp] sz_110 agg_110 zero_110 bytes_110
theorem sz_111 : szOf Try.prog 111 = some 1 := by kernel_rfl
theorem agg_111 : aggOf Try.prog 111 = some false := by kernel_rfl
theorem zero_111 : zeroOf Try.prog 111 = some [.nilFunc] := by kernel_rfl
theorem bytes_111 : bytesOf Try.prog 111 = some 8 := by kernel_rfl
attribute [simp] sz_111 agg_111 zero_111 bytes_111
theorem sz_112 : szOf Try.prog 112 = some 1 := by kernel_rfl
theorem agg_112 : aggOf Try.prog 112 = some false := by kernel_rfl
theorem zero_112 : zeroOf Try.prog 112 = some [.nilFunc] := by kernel_rfl
theorem bytes_112 : bytesOf Try.prog 112 = some 8 := by kernel_rfl
attribute [simp] sz_112 agg_112 zero_112 bytes_112
theorem sz_113 : szOf Try.prog 113 = some 1 := by kernel_rfl
theorem agg_113 : aggOf Try.prog 113 = some false := by kernel_rfl
theorem zero_113 : zeroOf Try.prog 113 = some [.nilFunc] := by kernel_rfl
theorem bytes_113 : bytesOf Try.prog 113 = some 8 := by kernel_rfl
attribute [simp] sz_113 agg_113 zero_113 bytes_113
theorem sz_114 : szOf Try.prog 114 = some 1 := by kernel_rfl
theorem agg_114 : aggOf Try.prog 114 = some false := by kernel_rfl
theorem zero_114 : zeroOf Try.prog 114 = some [.nilFunc] := by kernel_rfl
theorem bytes_114 : bytesOf Try.prog 114 = some 8 := by kernel_rfl
attribute [simp] sz_114 agg_114 zero_114 bytes_114
theorem sz_115 : szOf Try.prog 115 = some 1 := by kernel_rfl
theorem agg_115 : aggOf Try.prog 115 = some false := by kernel_rfl
theorem zero_115 : zeroOf Try.prog 115 = some [.nilFunc] := by kernel_rfl
theorem bytes_115 : bytesOf Try.prog 115 = some 8 := by kernel_rfl
attribute [simp] sz_115 agg_115 zero_115 bytes_115
theorem sz_116 : szOf Try.prog 116 = some 1 := by kernel_rfl
theorem agg_116 : aggOf Try.prog 116 = some false := by kernel_rfl
theorem zero_116 : zeroOf Try.prog 116 = some [.nilFunc] := by kernel_rfl
theorem bytes_116 : bytesOf Try.prog 116 = some 8 := by kernel_rfl
attribute [simp] sz_116 agg_116 zero_116 bytes_116
theorem sz_117 : szOf Try.prog 117 = some 1 := by kernel_rfl
theorem agg_117 : aggOf Try.prog 117 = some false := by kernel_rfl
theorem zero_117 : zeroOf Try.prog 117 = some [.nilFunc] := by kernel_rfl
theorem bytes_117 : bytesOf Try.prog 117 = some 8 := by kernel_rfl
attribute [simp] sz_117 agg_117 zero_117 bytes_117
theorem sz_118 : szOf Try.prog 118 = some 1 := by kernel_rfl
theorem agg_118 : aggOf Try.prog 118 = some false := by kernel_rfl
theorem zero_118 : zeroOf Try.prog 118 = some [.nilFunc] := by kernel_rfl
theorem bytes_118 : bytesOf Try.prog 118 = some 8 := by kernel_rfl
attribute [simp] sz_118 agg_118 zero_118 bytes_118
theorem sz_119 : szOf Try.prog 119 = some 1 := by kernel_rfl
theorem agg_119 : aggOf Try.prog 119 = some false := by kernel_rfl
theorem zero_119 : zeroOf Try.prog 119 = some [.nilFunc] := by kernel_rfl
theorem bytes_119 : bytesOf Try.prog 119 = some 8 := by kernel_rfl
attribute [simp] sz_119 agg_119 zero_119 bytes_119
theorem sz_120 : szOf Try.prog 120 = some 1 := by kernel_rfl
theorem agg_120 : aggOf Try.prog 120 = some false := by kernel_rfl
theorem zero_120 : zeroOf Try.prog 120 = some [.map none] := by kernel_rfl
theorem bytes_120 : bytesOf Try.prog 120 = some 8 := by kernel_rfl
theorem mapkv_120 : mapKV Try.prog 120 = some (.i64, 3) := by kernel_rfl
theorem zeropv_3 : zeroPV Try.prog 3 = some (.k (.int .i64 0)) := by kernel_rfl
attribute [simp] sz_120 agg_120 zero_120 bytes_120 mapkv_120 zeropv_3
theorem sz_121 : szOf Try.prog 121 = some 3 := by kernel_rfl
theorem agg_121 : aggOf Try.prog 121 = some true := by kernel_rfl
theorem zero_121 : zeroOf Try.prog 121 = some [.slice none 0 0, .slice none 0 0, .map none] := by kernel_rfl
theorem bytes_121 : bytesOf Try.prog 121 = some 56 := by kernel_rfl
theorem field_121x0 : fieldOf Try.prog 121 0 = some (37, 0) := by kernel_rfl
theorem field_121x1 : fieldOf Try.prog 121 1 = some (22, 1) := by kernel_rfl
theorem field_121x2 : fieldOf Try.prog 121 2 = some (120, 2) := by kernel_rfl
theorem places_121 : placesOf Try.prog 121 = some [(0, 1), (1, 1), (2, 1)] := by kernel_rfl
attribute [simp] sz_121 agg_121 zero_121 bytes_121 field_121x0 field_121x1 field_121x2 places_121
theorem sz_122 : szOf Try.prog 122 = some 3 := by kernel_rfl
theorem agg_122 : aggOf Try.prog 122 = some true := by kernel_rfl
theorem zero_122 : zeroOf Try.prog 122 = some [.slice none 0 0, .slice none 0 0, .map none] := by kernel_rfl
theorem bytes_122 : bytesOf Try.prog 122 = some 56 := by kernel_rfl
theorem field_122x0 : fieldOf Try.prog 122 0 = some (37, 0) := by kernel_rfl
theorem field_122x1 : fieldOf Try.prog 122 1 = some (22, 1) := by kernel_rfl
theorem field_122x2 : fieldOf Try.prog 122 2 = some (120, 2) := by kernel_rfl
theorem places_122 : placesOf Try.prog 122 = some [(0, 1), (1, 1), (2, 1)] := by kernel_rfl
attribute [simp] sz_122 agg_122 zero_122 bytes_122 field_122x0 field_122x1 field_122x2 places_122
theorem sz_123 : szOf Try.prog 123 = some 1 := by kernel_rfl
theorem agg_123 : aggOf Try.prog 123 = some false := by kernel_rfl
theorem zero_123 : zeroOf Try.prog 123 = some [.nilFunc] := by kernel_rfl
theorem bytes_123 : bytesOf Try.prog 123 = some 8 := by kernel_rfl
attribute [simp] sz_123 agg_123 zero_123 bytes_123
theorem sz_124 : szOf Try.prog 124 = some 1 := by kernel_rfl
theorem agg_124 : aggOf Try.prog 124 = some false := by kernel_rfl
theorem zero_124 : zeroOf Try.prog 124 = some [.nilFunc] := by kernel_rfl
theorem bytes_124 : bytesOf Try.prog 124 = some 8 := by kernel_rfl
attribute [simp] sz_124 agg_124 zero_124 bytes_124
theorem sz_126 : szOf Try.prog 126 = some 1 := by kernel_rfl
theorem agg_126 : aggOf Try.prog 126 = some false := by kernel_rfl
theorem zero_126 : zeroOf Try.prog 126 = some [.nilFunc] := by kernel_rfl
theorem bytes_126 : bytesOf Try.prog 126 = some 8 := by kernel_rfl
attribute [simp] sz_126 agg_126 zero_126 bytes_126
theorem sz_127 : szOf Try.prog 127 = some 1 := by kernel_rfl
theorem agg_127 : aggOf Try.prog 127 = some false := by kernel_rfl
theorem zero_127 : zeroOf Try.prog 127 = some [.nilFunc] := by kernel_rfl
theorem bytes_127 : bytesOf Try.prog 127 = some 8 := by kernel_rfl
attribute [simp] sz_127 agg_127 zero_127 bytes_127
theorem sz_128 : szOf Try.prog 128 = some 1 := by kernel_rfl
theorem agg_128 : aggOf Try.prog 128 = some false := by kernel_rfl
theorem zero_128 : zeroOf Try.prog 128 = some [.nilFunc] := by kernel_rfl
theorem bytes_128 : bytesOf Try.prog 128 = some 8 := by kernel_rfl
attribute [simp] sz_128 agg_128 zero_128 bytes_128
theorem sz_129 : szOf Try.prog 129 = some 1 := by kernel_rfl
theorem agg_129 : aggOf Try.prog 129 = some false := by kernel_rfl
theorem zero_129 : zeroOf Try.prog 129 = some [.int .u64 0] := by kernel_rfl
theorem bytes_129 : bytesOf Try.prog 129 = some 8 := by kernel_rfl
theorem int_129 : intOfT Try.prog 129 = some .u64 := by kernel_rfl
theorem und_129 : (Try.prog.underlying 129).isSome = true := by kernel_rfl
attribute [simp] sz_129 agg_129 zero_129 bytes_129 int_129 und_129
theorem sz_130 : szOf Try.prog 130 = some 1 := by kernel_rfl
theorem agg_130 : aggOf Try.prog 130 = some false := by kernel_rfl
theorem zero_130 : zeroOf Try.prog 130 = some [.nilFunc] := by kernel_rfl
theorem bytes_130 : bytesOf Try.prog 130 = some 8 := by kernel_rfl
attribute [simp] sz_130 agg_130 zero_130 bytes_130
theorem sz_131 : szOf Try.prog 131 = some 1 := by kernel_rfl
theorem agg_131 : aggOf Try.prog 131 = some false := by kernel_rfl
theorem zero_131 : zeroOf Try.prog 131 = some [.nilFunc] := by kernel_rfl
theorem bytes_131 : bytesOf Try.prog 131 = some 8 := by kernel_rfl
attribute [simp] sz_131 agg_131 zero_131 bytes_131
theorem sz_132 : szOf Try.prog 132 = some 1 := by kernel_rfl
theorem agg_132 : aggOf Try.prog 132 = some false := by kernel_rfl
theorem zero_132 : zeroOf Try.prog 132 = some [.nilFunc] := by kernel_rfl
theorem bytes_132 : bytesOf Try.prog 132 = some 8 := by kernel_rfl
attribute [simp] sz_132 agg_132 zero_132 bytes_132
theorem sz_133 : szOf Try.prog 133 = some 1 := by kernel_rfl
theorem agg_133 : aggOf Try.prog 133 = some false := by kernel_rfl
theorem zero_133 : zeroOf Try.prog 133 = some [.nilFunc] := by kernel_rfl
theorem bytes_133 : bytesOf Try.prog 133 = some 8 := by kernel_rfl
attribute [simp] sz_133 agg_133 zero_133 bytes_133
theorem sz_134 : szOf Try.prog 134 = some 1 := by kernel_rfl
theorem agg_134 : aggOf Try.prog 134 = some false := by kernel_rfl
theorem zero_134 : zeroOf Try.prog 134 = some [.nilFunc] := by kernel_rfl
theorem bytes_134 : bytesOf Try.prog 134 = some 8 := by kernel_rfl
attribute [simp] sz_134 agg_134 zero_134 bytes_134
theorem sz_135 : szOf Try.prog 135 = some 1 := by kernel_rfl
theorem agg_135 : aggOf Try.prog 135 = some false := by kernel_rfl
theorem zero_135 : zeroOf Try.prog 135 = some [.nilFunc] := by kernel_rfl
theorem bytes_135 : bytesOf Try.prog 135 = some 8 := by kernel_rfl
attribute [simp] sz_135 agg_135 zero_135 bytes_135
theorem sz_136 : szOf Try.prog 136 = some 1 := by kernel_rfl
theorem agg_136 : aggOf Try.prog 136 = some false := by kernel_rfl
theorem zero_136 : zeroOf Try.prog 136 = some [.nilFunc] := by kernel_rfl
theorem bytes_136 : bytesOf Try.prog 136 = some 8 := by kernel_rfl
attribute [simp] sz_136 agg_136 zero_136 bytes_136
theorem sz_137 : szOf Try.prog 137 = some 1 := by kernel_rfl
theorem agg_137 : aggOf Try.prog 137 = some false := by kernel_rfl
theorem zero_137 : zeroOf Try.prog 137 = some [.nilFunc] := by kernel_rfl
theorem bytes_137 : bytesOf Try.prog 137 = some 8 := by kernel_rfl
attribute [simp] sz_137 agg_137 zero_137 bytes_137
theorem sz_138 : szOf Try.prog 138 = some 1 := by kernel_rfl
theorem agg_138 : aggOf Try.prog 138 = some false := by kernel_rfl
theorem zero_138 : zeroOf Try.prog 138 = some [.nilFunc] := by kernel_rfl
theorem bytes_138 : bytesOf Try.prog 138 = some 8 := by kernel_rfl
attribute [simp] sz_138 agg_138 zero_138 bytes_138
theorem sz_139 : szOf Try.prog 139 = some 1 := by kernel_rfl
theorem agg_139 : aggOf Try.prog 139 = some false := by kernel_rfl
theorem zero_139 : zeroOf Try.prog 139 = some [.nilFunc] := by kernel_rfl
theorem bytes_139 : bytesOf Try.prog 139 = some 8 := by kernel_rfl
attribute [simp] sz_139 agg_139 zero_139 bytes_139
theorem sz_140 : szOf Try.prog 140 = some 3 := by kernel_rfl
theorem agg_140 : aggOf Try.prog 140 = some true := by kernel_rfl
theorem zero_140 : zeroOf Try.prog 140 = some [.slice none 0 0, .slice none 0 0, .map none] := by kernel_rfl
theorem bytes_140 : bytesOf Try.prog 140 = some 56 := by kernel_rfl
theorem field_140x0 : fieldOf Try.prog 140 0 = some (35, 0) := by kernel_rfl
theorem field_140x1 : fieldOf Try.prog 140 1 = some (22, 1) := by kernel_rfl
theorem field_140x2 : fieldOf Try.prog 140 2 = some (120, 2) := by kernel_rfl
theorem places_140 : placesOf Try.prog 140 = some [(0, 1), (1, 1), (2, 1)] := by kernel_rfl
attribute [simp] sz_140 agg_140 zero_140 bytes_140 field_140x0 field_140x1 field_140x2 places_140
theorem sz_141 : szOf Try.prog 141 = some 3 := by kernel_rfl
theorem agg_141 : aggOf Try.prog 141 = some true := by kernel_rfl
theorem zero_141 : zeroOf Try.prog 141 = some [.slice none 0 0, .slice none 0 0, .map none] := by kernel_rfl
theorem bytes_141 : bytesOf Try.prog 141 = some 56 := by kernel_rfl
theorem field_141x0 : fieldOf Try.prog 141 0 = some (35, 0) := by kernel_rfl
theorem field_141x1 : fieldOf Try.prog 141 1 = some (22, 1) := by kernel_rfl
theorem field_141x2 : fieldOf Try.prog 141 2 = some (120, 2) := by kernel_rfl
theorem places_141 : placesOf Try.prog 141 = some [(0, 1), (1, 1), (2, 1)] := by kernel_rfl
attribute [simp] sz_141 agg_141 zero_141 bytes_141 field_141x0 field_141x1 field_141x2 places_141
theorem sz_142 : szOf Try.prog 142 = some 1 := by kernel_rfl
theorem agg_142 : aggOf Try.prog 142 = some false := by kernel_rfl
theorem zero_142 : zeroOf Try.prog 142 = some [.nilFunc] := by kernel_rfl
theorem bytes_142 : bytesOf Try.prog 142 = some 8 := by kernel_rfl
attribute [simp] sz_142 agg_142 zero_142 bytes_142
theorem sz_143 : szOf Try.prog 143 = some 1 := by kernel_rfl
theorem agg_143 : aggOf Try.prog 143 = some false := by kernel_rfl
theorem zero_143 : zeroOf Try.prog 143 = some [.nilFunc] := by kernel_rfl
theorem bytes_143 : bytesOf Try.prog 143 = some 8 := by kernel_rfl
attribute [simp] sz_143 agg_143 zero_143 bytes_143
theorem sz_144 : szOf Try.prog 144 = some 1 := by kernel_rfl
theorem agg_144 : aggOf Try.prog 144 = some false := by kernel_rfl
theorem zero_144 : zeroOf Try.prog 144 = some [.nilFunc] := by kernel_rfl
theorem bytes_144 : bytesOf Try.prog 144 = some 8 := by kernel_rfl
attribute [simp] sz_144 agg_144 zero_144 bytes_144
theorem sz_145 : szOf Try.prog 145 = some 1 := by kernel_rfl
theorem agg_145 : aggOf Try.prog 145 = some false := by kernel_rfl
theorem zero_145 : zeroOf Try.prog 145 = some [.nilFunc] := by kernel_rfl
theorem bytes_145 : bytesOf Try.prog 145 = some 8 := by kernel_rfl
attribute [simp] sz_145 agg_145 zero_145 bytes_145
theorem sz_146 : szOf Try.prog 146 = some 1 := by kernel_rfl
theorem agg_146 : aggOf Try.prog 146 = some false := by kernel_rfl
theorem zero_146 : zeroOf Try.prog 146 = some [.nilFunc] := by kernel_rfl
theorem bytes_146 : bytesOf Try.prog 146 = some 8 := by kernel_rfl
attribute [simp] sz_146 agg_146 zero_146 bytes_146
theorem sz_147 : szOf Try.prog 147 = some 1 := by kernel_rfl
theorem agg_147 : aggOf Try.prog 147 = some false := by kernel_rfl
theorem zero_147 : zeroOf Try.prog 147 = some [.int .i64 0] := by kernel_rfl
theorem bytes_147 : bytesOf Try.prog 147 = some 8 := by kernel_rfl
theorem int_147 : intOfT Try.prog 147 = some .i64 := by kernel_rfl
theorem und_147 : (Try.prog.underlying 147).isSome = true := by kernel_rfl
attribute [simp] sz_147 agg_147 zero_147 bytes_147 int_147 und_147
theorem sz_149 : szOf Try.prog 149 = some 1 := by kernel_rfl
theorem agg_149 : aggOf Try.prog 149 = some false := by kernel_rfl
theorem zero_149 : zeroOf Try.prog 149 = some [.nilFunc] := by kernel_rfl
theorem bytes_149 : bytesOf Try.prog 149 = some 8 := by kernel_rfl
attribute [simp] sz_149 agg_149 zero_149 bytes_149
theorem sz_150 : szOf Try.prog 150 = some 1 := by kernel_rfl
theorem agg_150 : aggOf Try.prog 150 = some false := by kernel_rfl
theorem zero_150 : zeroOf Try.prog 150 = some [.nilFunc] := by kernel_rfl
theorem bytes_150 : bytesOf Try.prog 150 = some 8 := by kernel_rfl
attribute [simp] sz_150 agg_150 zero_150 bytes_150
theorem sz_151 : szOf Try.prog 151 = some 1 := by kernel_rfl
theorem agg_151 : aggOf Try.prog 151 = some false := by kernel_rfl
theorem zero_151 : zeroOf Try.prog 151 = some [.nilFunc] := by kernel_rfl
theorem bytes_151 : bytesOf Try.prog 151 = some 8 := by kernel_rfl
attribute [simp] sz_151 agg_151 zero_151 bytes_151
theorem sz_152 : szOf Try.prog 152 = some 1 := by kernel_rfl
theorem agg_152 : aggOf Try.prog 152 = some false := by kernel_rfl
theorem zero_152 : zeroOf Try.prog 152 = some [.nilFunc] := by kernel_rfl
theorem bytes_152 : bytesOf Try.prog 152 = some 8 := by kernel_rfl
attribute [simp] sz_152 agg_152 zero_152 bytes_152
theorem sz_153 : szOf Try.prog 153 = some 1 := by kernel_rfl
theorem agg_153 : aggOf Try.prog 153 = some false := by kernel_rfl
theorem zero_153 : zeroOf Try.prog 153 = some [.nilFunc] := by kernel_rfl
theorem bytes_153 : bytesOf Try.prog 153 = some 8 := by kernel_rfl
attribute [simp] sz_153 agg_153 zero_153 bytes_153
theorem sz_154 : szOf Try.prog 154 = some 1 := by kernel_rfl
theorem agg_154 : aggOf Try.prog 154 = some false := by kernel_rfl
theorem zero_154 : zeroOf Try.prog 154 = some [.int .u32 0] := by kernel_rfl
theorem bytes_154 : bytesOf Try.prog 154 = some 4 := by kernel_rfl
theorem int_154 : intOfT Try.prog 154 = some .u32 := by kernel_rfl
theorem und_154 : (Try.prog.underlying 154).isSome = true := by kernel_rfl
attribute [simp] sz_154 agg_154 zero_154 bytes_154 int_154 und_154
theorem sz_155 : szOf Try.prog 155 = some 1 := by kernel_rfl
theorem agg_155 : aggOf Try.prog 155 = some false := by kernel_rfl
theorem zero_155 : zeroOf Try.prog 155 = some [.nilFunc] := by kernel_rfl
theorem bytes_155 : bytesOf Try.prog 155 = some 8 := by kernel_rfl
attribute [simp] sz_155 agg_155 zero_155 bytes_155
theorem sz_156 : szOf Try.prog 156 = some 1 := by kernel_rfl
theorem agg_156 : aggOf Try.prog 156 = some false := by kernel_rfl
theorem zero_156 : zeroOf Try.prog 156 = some [.int .u64 0] := by kernel_rfl
theorem bytes_156 : bytesOf Try.prog 156 = some 8 := by kernel_rfl
theorem int_156 : intOfT Try.prog 156 = some .u64 := by kernel_rfl
theorem und_156 : (Try.prog.underlying 156).isSome = true := by kernel_rfl
attribute [simp] sz_156 agg_156 zero_156 bytes_156 int_156 und_156
theorem sz_157 : szOf Try.prog 157 = some 1 := by kernel_rfl
theorem agg_157 : aggOf Try.prog 157 = some false := by kernel_rfl
theorem zero_157 : zeroOf Try.prog 157 = some [.nilFunc] := by kernel_rfl
theorem bytes_157 : bytesOf Try.prog 157 = some 8 := by kernel_rfl
attribute [simp] sz_157 agg_157 zero_157 bytes_157
theorem sz_158 : szOf Try.prog 158 = some 1 := by kernel_rfl
theorem agg_158 : aggOf Try.prog 158 = some false := by kernel_rfl
theorem zero_158 : zeroOf Try.prog 158 = some [.nilFunc] := by kernel_rfl
theorem bytes_158 : bytesOf Try.prog 158 = some 8 := by kernel_rfl
attribute [simp] sz_158 agg_158 zero_158 bytes_158
theorem sz_159 : szOf Try.prog 159 = some 1 := by kernel_rfl
theorem agg_159 : aggOf Try.prog 159 = some false := by kernel_rfl
theorem zero_159 : zeroOf Try.prog 159 = some [.nilFunc] := by kernel_rfl
theorem bytes_159 : bytesOf Try.prog 159 = some 8 := by kernel_rfl
attribute [simp] sz_159 agg_159 zero_159 bytes_159
theorem sz_160 : szOf Try.prog 160 = some 1 := by kernel_rfl
theorem agg_160 : aggOf Try.prog 160 = some false := by kernel_rfl
theorem zero_160 : zeroOf Try.prog 160 = some [.nilFunc] := by kernel_rfl
theorem bytes_160 : bytesOf Try.prog 160 = some 8 := by kernel_rfl
attribute [simp] sz_160 agg_160 zero_160 bytes_160
theorem sz_161 : szOf Try.prog 161 = some 1 := by kernel_rfl
theorem agg_161 : aggOf Try.prog 161 = some false := by kernel_rfl
theorem zero_161 : zeroOf Try.prog 161 = some [.nilFunc] := by kernel_rfl
theorem bytes_161 : bytesOf Try.prog 161 = some 8 := by kernel_rfl
attribute [simp] sz_161 agg_161 zero_161 bytes_161
theorem sz_162 : szOf Try.prog 162 = some 1 := by kernel_rfl
theorem agg_162 : aggOf Try.prog 162 = some false := by kernel_rfl
theorem zero_162 : zeroOf Try.prog 162 = some [.nilFunc] := by kernel_rfl
theorem bytes_162 : bytesOf Try.prog 162 = some 8 := by kernel_rfl
attribute [simp] sz_162 agg_162 zero_162 bytes_162
theorem sz_163 : szOf Try.prog 163 = some 1 := by kernel_rfl
theorem agg_163 : aggOf Try.prog 163 = some false := by kernel_rfl
theorem zero_163 : zeroOf Try.prog 163 = some [.nilFunc] := by kernel_rfl
theorem bytes_163 : bytesOf Try.prog 163 = some 8 := by kernel_rfl
attribute [simp] sz_163 agg_163 zero_163 bytes_163
theorem sz_164 : szOf Try.prog 164 = some 1 := by kernel_rfl
theorem agg_164 : aggOf Try.prog 164 = some false := by kernel_rfl
theorem zero_164 : zeroOf Try.prog 164 = some [.nilFunc] := by kernel_rfl
theorem bytes_164 : bytesOf Try.prog 164 = some 8 := by kernel_rfl
attribute [simp] sz_164 agg_164 zero_164 bytes_164
theorem sz_165 : szOf Try.prog 165 = some 1 := by kernel_rfl
theorem agg_165 : aggOf Try.prog 165 = some false := by kernel_rfl
theorem zero_165 : zeroOf Try.prog 165 = some [.nilFunc] := by kernel_rfl
theorem bytes_165 : bytesOf Try.prog 165 = some 8 := by kernel_rfl
attribute [simp] sz_165 agg_165 zero_165 bytes_165
theorem sz_166 : szOf Try.prog 166 = some 1 := by kernel_rfl
theorem agg_166 : aggOf Try.prog 166 = some false := by kernel_rfl
theorem zero_166 : zeroOf Try.prog 166 = some [.nilFunc] := by kernel_rfl
theorem bytes_166 : bytesOf Try.prog 166 = some 8 := by kernel_rfl
attribute [simp] sz_166 agg_166 zero_166 bytes_166
theorem sz_167 : szOf Try.prog 167 = some 1 := by kernel_rfl
theorem agg_167 : aggOf Try.prog 167 = some false := by kernel_rfl
theorem zero_167 : zeroOf Try.prog 167 = some [.nilFunc] := by kernel_rfl
theorem bytes_167 : bytesOf Try.prog 167 = some 8 := by kernel_rfl
attribute [simp] sz_167 agg_167 zero_167 bytes_167
theorem sz_169 : szOf Try.prog 169 = some 1 := by kernel_rfl
theorem agg_169 : aggOf Try.prog 169 = some false := by kernel_rfl
theorem zero_169 : zeroOf Try.prog 169 = some [.nilFunc] := by kernel_rfl
theorem bytes_169 : bytesOf Try.prog 169 = some 8 := by kernel_rfl
attribute [simp] sz_169 agg_169 zero_169 bytes_169
theorem sz_170 : szOf Try.prog 170 = some 1 := by kernel_rfl
theorem agg_170 : aggOf Try.prog 170 = some false := by kernel_rfl
theorem zero_170 : zeroOf Try.prog 170 = some [.int .u64 0] := by kernel_rfl
theorem bytes_170 : bytesOf Try.prog 170 = some 8 := by kernel_rfl
theorem int_170 : intOfT Try.prog 170 = some .u64 := by kernel_rfl
theorem und_170 : (Try.prog.underlying 170).isSome = true := by kernel_rfl
attribute [simp] sz_170 agg_170 zero_170 bytes_170 int_170 und_170
theorem sz_171 : szOf Try.prog 171 = some 1 := by kernel_rfl
theorem agg_171 : aggOf Try.prog 171 = some false := by kernel_rfl
theorem zero_171 : zeroOf Try.prog 171 = some [.nilFunc] := by kernel_rfl
theorem bytes_171 : bytesOf Try.prog 171 = some 8 := by kernel_rfl
attribute [simp] sz_171 agg_171 zero_171 bytes_171
theorem sz_172 : szOf Try.prog 172 = some 1 := by kernel_rfl
theorem agg_172 : aggOf Try.prog 172 = some false := by kernel_rfl
theorem zero_172 : zeroOf Try.prog 172 = some [.nilFunc] := by kernel_rfl
theorem bytes_172 : bytesOf Try.prog 172 = some 8 := by kernel_rfl
attribute [simp] sz_172 agg_172 zero_172 bytes_172
theorem sz_173 : szOf Try.prog 173 = some 1 := by kernel_rfl
theorem agg_173 : aggOf Try.prog 173 = some false := by kernel_rfl
theorem zero_173 : zeroOf Try.prog 173 = some [.nilFunc] := by kernel_rfl
theorem bytes_173 : bytesOf Try.prog 173 = some 8 := by kernel_rfl
attribute [simp] sz_173 agg_173 zero_173 bytes_173
theorem sz_174 : szOf Try.prog 174 = some 1 := by kernel_rfl
theorem agg_174 : aggOf Try.prog 174 = some false := by kernel_rfl
theorem zero_174 : zeroOf Try.prog 174 = some [.pointer none] := by kernel_rfl
theorem bytes_174 : bytesOf Try.prog 174 = some 8 := by kernel_rfl
theorem ptr_174 : isPtr Try.prog 174 = true := by kernel_rfl
attribute [simp] sz_174 agg_174 zero_174 bytes_174 ptr_174
theorem sz_175 : szOf Try.prog 175 = some 1 := by kernel_rfl
theorem agg_175 : aggOf Try.prog 175 = some false := by kernel_rfl
theorem zero_175 : zeroOf Try.prog 175 = some [.nilFunc] := by kernel_rfl
theorem bytes_175 : bytesOf Try.prog 175 = some 8 := by kernel_rfl
attribute [simp] sz_175 agg_175 zero_175 bytes_175
theorem sz_176 : szOf Try.prog 176 = some 1 := by kernel_rfl
theorem agg_176 : aggOf Try.prog 176 = some false := by kernel_rfl
theorem zero_176 : zeroOf Try.prog 176 = some [.nilFunc] := by kernel_rfl
theorem bytes_176 : bytesOf Try.prog 176 = some 8 := by kernel_rfl
attribute [simp] sz_176 agg_176 zero_176 bytes_176
theorem sz_177 : szOf Try.prog 177 = some 1 := by kernel_rfl
theorem agg_177 : aggOf Try.prog 177 = some false := by kernel_rfl
theorem zero_177 : zeroOf Try.prog 177 = some [.nilFunc] := by kernel_rfl
theorem bytes_177 : bytesOf Try.prog 177 = some 8 := by kernel_rfl
attribute [simp] sz_177 agg_177 zero_177 bytes_177
theorem sz_178 : szOf Try.prog 178 = some 1 := by kernel_rfl
theorem agg_178 : aggOf Try.prog 178 = some false := by kernel_rfl
theorem zero_178 : zeroOf Try.prog 178 = some [.nilFunc] := by kernel_rfl
theorem bytes_178 : bytesOf Try.prog 178 = some 8 := by kernel_rfl
attribute [simp] sz_178 agg_178 zero_178 bytes_178
theorem sz_179 : szOf Try.prog 179 = some 1 := by kernel_rfl
theorem agg_179 : aggOf Try.prog 179 = some false := by kernel_rfl
theorem zero_179 : zeroOf Try.prog 179 = some [.nilFunc] := by kernel_rfl
theorem bytes_179 : bytesOf Try.prog 179 = some 8 := by kernel_rfl
attribute [simp] sz_179 agg_179 zero_179 bytes_179
theorem sz_180 : szOf Try.prog 180 = some 1 := by kernel_rfl
theorem agg_180 : aggOf Try.prog 180 = some false := by kernel_rfl
theorem zero_180 : zeroOf Try.prog 180 = some [.pointer none] := by kernel_rfl
theorem bytes_180 : bytesOf Try.prog 180 = some 8 := by kernel_rfl
theorem ptr_180 : isPtr Try.prog 180 = true := by kernel_rfl
attribute [simp] sz_180 agg_180 zero_180 bytes_180 ptr_180
theorem sz_182 : szOf Try.prog 182 = some 1 := by kernel_rfl
theorem agg_182 : aggOf Try.prog 182 = some false := by kernel_rfl
theorem zero_182 : zeroOf Try.prog 182 = some [.nilFunc] := by kernel_rfl
theorem bytes_182 : bytesOf Try.prog 182 = some 8 := by kernel_rfl
attribute [simp] sz_182 agg_182 zero_182 bytes_182
theorem sz_183 : szOf Try.prog 183 = some 1 := by kernel_rfl
theorem agg_183 : aggOf Try.prog 183 = some false := by kernel_rfl
theorem zero_183 : zeroOf Try.prog 183 = some [.nilFunc] := by kernel_rfl
theorem bytes_183 : bytesOf Try.prog 183 = some 8 := by kernel_rfl
attribute [simp] sz_183 agg_183 zero_183 bytes_183
theorem sz_184 : szOf Try.prog 184 = some 1 := by kernel_rfl
theorem agg_184 : aggOf Try.prog 184 = some false := by kernel_rfl
theorem zero_184 : zeroOf Try.prog 184 = some [.nilFunc] := by kernel_rfl
theorem bytes_184 : bytesOf Try.prog 184 = some 8 := by kernel_rfl
attribute [simp] sz_184 agg_184 zero_184 bytes_184
theorem sz_185 : szOf Try.prog 185 = some 1 := by kernel_rfl
theorem agg_185 : aggOf Try.prog 185 = some false := by kernel_rfl
theorem zero_185 : zeroOf Try.prog 185 = some [.nilFunc] := by kernel_rfl
theorem bytes_185 : bytesOf Try.prog 185 = some 8 := by kernel_rfl
attribute [simp] sz_185 agg_185 zero_185 bytes_185
theorem sz_186 : szOf Try.prog 186 = some 4 := by kernel_rfl
theorem agg_186 : aggOf Try.prog 186 = some true := by kernel_rfl
theorem zero_186 : zeroOf Try.prog 186 = some [.pointer none, .pointer none, .pointer none, .string ⟨#[]⟩] := by kernel_rfl
theorem bytes_186 : bytesOf Try.prog 186 = some 40 := by kernel_rfl
theorem field_186x0 : fieldOf Try.prog 186 0 = some (17, 0) := by kernel_rfl
theorem field_186x1 : fieldOf Try.prog 186 1 = some (17, 1) := by kernel_rfl
theorem field_186x2 : fieldOf Try.prog 186 2 = some (17, 2) := by kernel_rfl
theorem field_186x3 : fieldOf Try.prog 186 3 = some (9, 3) := by kernel_rfl
theorem places_186 : placesOf Try.prog 186 = some [(0, 1), (1, 1), (2, 1), (3, 1)] := by kernel_rfl
attribute [simp] sz_186 agg_186 zero_186 bytes_186 field_186x0 field_186x1 field_186x2 field_186x3 places_186
theorem sz_187 : szOf Try.prog 187 = some 4 := by kernel_rfl
theorem agg_187 : aggOf Try.prog 187 = some true := by kernel_rfl
theorem zero_187 : zeroOf Try.prog 187 = some [.pointer none, .pointer none, .pointer none, .string ⟨#[]⟩] := by kernel_rfl
theorem bytes_187 : bytesOf Try.prog 187 = some 40 := by kernel_rfl
theorem field_187x0 : fieldOf Try.prog 187 0 = some (17, 0) := by kernel_rfl
theorem field_187x1 : fieldOf Try.prog 187 1 = some (17, 1) := by kernel_rfl
theorem field_187x2 : fieldOf Try.prog 187 2 = some (17, 2) := by kernel_rfl
theorem field_187x3 : fieldOf Try.prog 187 3 = some (9, 3) := by kernel_rfl
theorem places_187 : placesOf Try.prog 187 = some [(0, 1), (1, 1), (2, 1), (3, 1)] := by kernel_rfl
attribute [simp] sz_187 agg_187 zero_187 bytes_187 field_187x0 field_187x1 field_187x2 field_187x3 places_187
theorem sz_188 : szOf Try.prog 188 = some 0 := by kernel_rfl
theorem agg_188 : aggOf Try.prog 188 = some true := by kernel_rfl
theorem zero_188 : zeroOf Try.prog 188 = some [] := by kernel_rfl
theorem bytes_188 : bytesOf Try.prog 188 = some 0 := by kernel_rfl
attribute [simp] sz_188 agg_188 zero_188 bytes_188
theorem sz_189 : szOf Try.prog 189 = some 0 := by kernel_rfl
theorem agg_189 : aggOf Try.prog 189 = some true := by kernel_rfl
theorem zero_189 : zeroOf Try.prog 189 = some [] := by kernel_rfl
theorem bytes_189 : bytesOf Try.prog 189 = some 0 := by kernel_rfl
theorem field_189x0 : fieldOf Try.prog 189 0 = some (188, 0) := by kernel_rfl
theorem places_189 : placesOf Try.prog 189 = some [(0, 0)] := by kernel_rfl
attribute [simp] sz_189 agg_189 zero_189 bytes_189 field_189x0 places_189
theorem sz_190 : szOf Try.prog 190 = some 0 := by kernel_rfl
theorem agg_190 : aggOf Try.prog 190 = some true := by kernel_rfl
theorem zero_190 : zeroOf Try.prog 190 = some [] := by kernel_rfl
theorem bytes_190 : bytesOf Try.prog 190 = some 0 := by kernel_rfl
theorem field_190x0 : fieldOf Try.prog 190 0 = some (188, 0) := by kernel_rfl
theorem places_190 : placesOf Try.prog 190 = some [(0, 0)] := by kernel_rfl
attribute [simp] sz_190 agg_190 zero_190 bytes_190 field_190x0 places_190
theorem sz_191 : szOf Try.prog 191 = some 1 := by kernel_rfl
theorem agg_191 : aggOf Try.prog 191 = some false := by kernel_rfl
theorem zero_191 : zeroOf Try.prog 191 = some [.nilFunc] := by kernel_rfl
theorem bytes_191 : bytesOf Try.prog 191 = some 8 := by kernel_rfl
attribute [simp] sz_191 agg_191 zero_191 bytes_191
theorem sz_192 : szOf Try.prog 192 = some 1 := by kernel_rfl
theorem agg_192 : aggOf Try.prog 192 = some false := by kernel_rfl
theorem zero_192 : zeroOf Try.prog 192 = some [.int .u8 0] := by kernel_rfl
theorem bytes_192 : bytesOf Try.prog 192 = some 1 := by kernel_rfl
theorem int_192 : intOfT Try.prog 192 = some .u8 := by kernel_rfl
theorem und_192 : (Try.prog.underlying 192).isSome = true := by kernel_rfl
attribute [simp] sz_192 agg_192 zero_192 bytes_192 int_192 und_192
theorem sz_193 : szOf Try.prog 193 = some 1 := by kernel_rfl
theorem agg_193 : aggOf Try.prog 193 = some false := by kernel_rfl
theorem zero_193 : zeroOf Try.prog 193 = some [.int .u8 0] := by kernel_rfl
theorem bytes_193 : bytesOf Try.prog 193 = some 1 := by kernel_rfl
theorem int_193 : intOfT Try.prog 193 = some .u8 := by kernel_rfl
theorem und_193 : (Try.prog.underlying 193).isSome = true := by kernel_rfl
attribute [simp] sz_193 agg_193 zero_193 bytes_193 int_193 und_193
theorem sz_194 : szOf Try.prog 194 = some 1 := by kernel_rfl
theorem agg_194 : aggOf Try.prog 194 = some false := by kernel_rfl
theorem zero_194 : zeroOf Try.prog 194 = some [.nilFunc] := by kernel_rfl
theorem bytes_194 : bytesOf Try.prog 194 = some 8 := by kernel_rfl
attribute [simp] sz_194 agg_194 zero_194 bytes_194
theorem sz_195 : szOf Try.prog 195 = some 1 := by kernel_rfl
theorem agg_195 : aggOf Try.prog 195 = some false := by kernel_rfl
theorem zero_195 : zeroOf Try.prog 195 = some [.pointer none] := by kernel_rfl
theorem bytes_195 : bytesOf Try.prog 195 = some 8 := by kernel_rfl
theorem ptr_195 : isPtr Try.prog 195 = true := by kernel_rfl
attribute [simp] sz_195 agg_195 zero_195 bytes_195 ptr_195
theorem sz_196 : szOf Try.prog 196 = some 1 := by kernel_rfl
theorem agg_196 : aggOf Try.prog 196 = some false := by kernel_rfl
theorem zero_196 : zeroOf Try.prog 196 = some [.int .i32 0] := by kernel_rfl
theorem bytes_196 : bytesOf Try.prog 196 = some 4 := by kernel_rfl
theorem int_196 : intOfT Try.prog 196 = some .i32 := by kernel_rfl
theorem und_196 : (Try.prog.underlying 196).isSome = true := by kernel_rfl
attribute [simp] sz_196 agg_196 zero_196 bytes_196 int_196 und_196
theorem sz_197 : szOf Try.prog 197 = some 1 := by kernel_rfl
theorem agg_197 : aggOf Try.prog 197 = some false := by kernel_rfl
theorem zero_197 : zeroOf Try.prog 197 = some [.int .i32 0] := by kernel_rfl
theorem bytes_197 : bytesOf Try.prog 197 = some 4 := by kernel_rfl
theorem int_197 : intOfT Try.prog 197 = some .i32 := by kernel_rfl
theorem und_197 : (Try.prog.underlying 197).isSome = true := by kernel_rfl
attribute [simp] sz_197 agg_197 zero_197 bytes_197 int_197 und_197
theorem sz_198 : szOf Try.prog 198 = some 11 := by kernel_rfl
theorem agg_198 : aggOf Try.prog 198 = some true := by kernel_rfl
theorem zero_198 : zeroOf Try.prog 198 = some [.int .u64 0, .int .u64 0, .int .u32 0, .int .u8 0, .int .u8 0, .int .u8 0, .int .u8 0, .nilFunc, .pointer none, .int .i32 0, .int .i32 0] := by kernel_rfl
theorem bytes_198 : bytesOf Try.prog 198 = some 48 := by kernel_rfl
theorem field_198x0 : fieldOf Try.prog 198 0 = some (12, 0) := by kernel_rfl
theorem field_198x1 : fieldOf Try.prog 198 1 = some (12, 1) := by kernel_rfl
theorem field_198x2 : fieldOf Try.prog 198 2 = some (154, 2) := by kernel_rfl
theorem field_198x3 : fieldOf Try.prog 198 3 = some (192, 3) := by kernel_rfl
theorem field_198x4 : fieldOf Try.prog 198 4 = some (5, 4) := by kernel_rfl
theorem field_198x5 : fieldOf Try.prog 198 5 = some (5, 5) := by kernel_rfl
theorem field_198x6 : fieldOf Try.prog 198 6 = some (193, 6) := by kernel_rfl
theorem field_198x7 : fieldOf Try.prog 198 7 = some (194, 7) := by kernel_rfl
theorem field_198x8 : fieldOf Try.prog 198 8 = some (195, 8) := by kernel_rfl
theorem field_198x9 : fieldOf Try.prog 198 9 = some (196, 9) := by kernel_rfl
theorem field_198x10 : fieldOf Try.prog 198 10 = some (197, 10) := by kernel_rfl
theorem places_198 : placesOf Try.prog 198 = some [(0, 1), (1, 1), (2, 1), (3, 1), (4, 1), (5, 1), (6, 1), (7, 1), (8, 1), (9, 1), (10, 1)] := by kernel_rfl
attribute [simp] sz_198 agg_198 zero_198 bytes_198 field_198x0 field_198x1 field_198x2 field_198x3 field_198x4 field_198x5 field_198x6 field_198x7 field_198x8 field_198x9 field_198x10 places_198
theorem sz_199 : szOf Try.prog 199 = some 11 := by kernel_rfl
theorem agg_199 : aggOf Try.prog 199 = some true := by kernel_rfl
theorem zero_199 : zeroOf Try.prog 199 = some [.int .u64 0, .int .u64 0, .int .u32 0, .int .u8 0, .int .u8 0, .int .u8 0, .int .u8 0, .nilFunc, .pointer none, .int .i32 0, .int .i32 0] := by kernel_rfl
theorem bytes_199 : bytesOf Try.prog 199 = some 48 := by kernel_rfl
theorem field_199x0 : fieldOf Try.prog 199 0 = some (12, 0) := by kernel_rfl
theorem field_199x1 : fieldOf Try.prog 199 1 = some (12, 1) := by kernel_rfl
theorem field_199x2 : fieldOf Try.prog 199 2 = some (154, 2) := by kernel_rfl
theorem field_199x3 : fieldOf Try.prog 199 3 = some (192, 3) := by kernel_rfl
theorem field_199x4 : fieldOf Try.prog 199 4 = some (5, 4) := by kernel_rfl
theorem field_199x5 : fieldOf Try.prog 199 5 = some (5, 5) := by kernel_rfl
theorem field_199x6 : fieldOf Try.prog 199 6 = some (193, 6) := by kernel_rfl
theorem field_199x7 : fieldOf Try.prog 199 7 = some (194, 7) := by kernel_rfl
theorem field_199x8 : fieldOf Try.prog 199 8 = some (195, 8) := by kernel_rfl
theorem field_199x9 : fieldOf Try.prog 199 9 = some (196, 9) := by kernel_rfl
theorem field_199x10 : fieldOf Try.prog 199 10 = some (197, 10) := by kernel_rfl
theorem places_199 : placesOf Try.prog 199 = some [(0, 1), (1, 1), (2, 1), (3, 1), (4, 1), (5, 1), (6, 1), (7, 1), (8, 1), (9, 1), (10, 1)] := by kernel_rfl
attribute [simp] sz_199 agg_199 zero_199 bytes_199 field_199x0 field_199x1 field_199x2 field_199x3 field_199x4 field_199x5 field_199x6 field_199x7 field_199x8 field_199x9 field_199x10 places_199
theorem sz_200 : szOf Try.prog 200 = some 1 := by kernel_rfl
theorem agg_200 : aggOf Try.prog 200 = some false := by kernel_rfl
theorem zero_200 : zeroOf Try.prog 200 = some [.nilFunc] := by kernel_rfl
theorem bytes_200 : bytesOf Try.prog 200 = some 8 := by kernel_rfl
attribute [simp] sz_200 agg_200 zero_200 bytes_200
theorem sz_201 : szOf Try.prog 201 = some 1 := by kernel_rfl
theorem agg_201 : aggOf Try.prog 201 = some false := by kernel_rfl
theorem zero_201 : zeroOf Try.prog 201 = some [.nilFunc] := by kernel_rfl
theorem bytes_201 : bytesOf Try.prog 201 = some 8 := by kernel_rfl
attribute [simp] sz_201 agg_201 zero_201 bytes_201
theorem sz_202 : szOf Try.prog 202 = some 1 := by kernel_rfl
theorem agg_202 : aggOf Try.prog 202 = some false := by kernel_rfl
theorem zero_202 : zeroOf Try.prog 202 = some [.pointer none] := by kernel_rfl
theorem bytes_202 : bytesOf Try.prog 202 = some 8 := by kernel_rfl
attribute [simp] sz_202 agg_202 zero_202 bytes_202
theorem sz_203 : szOf Try.prog 203 = some 1 := by kernel_rfl
theorem agg_203 : aggOf Try.prog 203 = some false := by kernel_rfl
theorem zero_203 : zeroOf Try.prog 203 = some [.nilFunc] := by kernel_rfl
theorem bytes_203 : bytesOf Try.prog 203 = some 8 := by kernel_rfl
attribute [simp] sz_203 agg_203 zero_203 bytes_203
theorem sz_204 : szOf Try.prog 204 = some 1 := by kernel_rfl
theorem agg_204 : aggOf Try.prog 204 = some false := by kernel_rfl
theorem zero_204 : zeroOf Try.prog 204 = some [.nilFunc] := by kernel_rfl
theorem bytes_204 : bytesOf Try.prog 204 = some 8 := by kernel_rfl
attribute [simp] sz_204 agg_204 zero_204 bytes_204
theorem sz_205 : szOf Try.prog 205 = some 1 := by kernel_rfl
theorem agg_205 : aggOf Try.prog 205 = some false := by kernel_rfl
theorem zero_205 : zeroOf Try.prog 205 = some [.nilFunc] := by kernel_rfl
theorem bytes_205 : bytesOf Try.prog 205 = some 8 := by kernel_rfl
attribute [simp] sz_205 agg_205 zero_205 bytes_205
@[simp] theorem en_3 : enterable Try.prog 3 = true := by kernel_rfl
@[simp] theorem en_4 : enterable Try.prog 4 = true := by kernel_rfl
@[simp] theorem en_5 : enterable Try.prog 5 = true := by kernel_rfl
@[simp] theorem en_6 : enterable Try.prog 6 = true := by kernel_rfl
@[simp] theorem en_7 : enterable Try.prog 7 = true := by kernel_rfl
@[simp] theorem en_8 : enterable Try.prog 8 = true := by kernel_rfl
@[simp] theorem en_9 : enterable Try.prog 9 = true := by kernel_rfl
@[simp] theorem en_10 : enterable Try.prog 10 = true := by kernel_rfl
@[simp] theorem en_11 : enterable Try.prog 11 = true := by kernel_rfl
@[simp] theorem en_12 : enterable Try.prog 12 = true := by kernel_rfl
@[simp] theorem en_13 : enterable Try.prog 13 = true := by kernel_rfl
@[simp] theorem en_14 : enterable Try.prog 14 = true := by kernel_rfl
@[simp] theorem en_15 : enterable Try.prog 15 = true := by kernel_rfl
@[simp] theorem en_16 : enterable Try.prog 16 = true := by kernel_rfl
@[simp] theorem en_17 : enterable Try.prog 17 = true := by kernel_rfl
@[simp] theorem en_18 : enterable Try.prog 18 = true := by kernel_rfl
@[simp] theorem en_19 : enterable Try.prog 19 = true := by kernel_rfl
@[simp] theorem en_20 : enterable Try.prog 20 = true := by kernel_rfl
@[simp] theorem en_21 : enterable Try.prog 21 = true := by kernel_rfl
@[simp] theorem en_22 : enterable Try.prog 22 = true := by kernel_rfl
@[simp] theorem en_23 : enterable Try.prog 23 = true := by kernel_rfl
@[simp] theorem en_24 : enterable Try.prog 24 = true := by kernel_rfl
@[simp] theorem en_25 : enterable Try.prog 25 = true := by kernel_rfl
@[simp] theorem en_26 : enterable Try.prog 26 = true := by kernel_rfl
@[simp] theorem en_27 : enterable Try.prog 27 = true := by kernel_rfl
@[simp] theorem en_28 : enterable Try.prog 28 = true := by kernel_rfl
@[simp] theorem en_29 : enterable Try.prog 29 = true := by kernel_rfl
@[simp] theorem en_30 : enterable Try.prog 30 = true := by kernel_rfl
@[simp] theorem en_31 : enterable Try.prog 31 = true := by kernel_rfl
@[simp] theorem en_32 : enterable Try.prog 32 = true := by kernel_rfl
@[simp] theorem en_33 : enterable Try.prog 33 = true := by kernel_rfl
@[simp] theorem en_34 : enterable Try.prog 34 = true := by kernel_rfl
@[simp] theorem en_35 : enterable Try.prog 35 = true := by kernel_rfl
@[simp] theorem en_36 : enterable Try.prog 36 = true := by kernel_rfl
@[simp] theorem en_37 : enterable Try.prog 37 = true := by kernel_rfl
@[simp] theorem en_38 : enterable Try.prog 38 = true := by kernel_rfl
@[simp] theorem en_39 : enterable Try.prog 39 = true := by kernel_rfl
@[simp] theorem en_40 : enterable Try.prog 40 = true := by kernel_rfl
@[simp] theorem en_41 : enterable Try.prog 41 = true := by kernel_rfl
@[simp] theorem en_42 : enterable Try.prog 42 = true := by kernel_rfl
@[simp] theorem en_43 : enterable Try.prog 43 = true := by kernel_rfl
@[simp] theorem en_44 : enterable Try.prog 44 = true := by kernel_rfl
@[simp] theorem en_45 : enterable Try.prog 45 = true := by kernel_rfl
@[simp] theorem en_46 : enterable Try.prog 46 = true := by kernel_rfl
@[simp] theorem en_47 : enterable Try.prog 47 = true := by kernel_rfl
@[simp] theorem en_48 : enterable Try.prog 48 = true := by kernel_rfl
@[simp] theorem en_49 : enterable Try.prog 49 = true := by kernel_rfl
@[simp] theorem en_50 : enterable Try.prog 50 = true := by kernel_rfl
@[simp] theorem en_51 : enterable Try.prog 51 = true := by kernel_rfl
@[simp] theorem en_52 : enterable Try.prog 52 = true := by kernel_rfl
@[simp] theorem en_53 : enterable Try.prog 53 = true := by kernel_rfl
@[simp] theorem en_54 : enterable Try.prog 54 = true := by kernel_rfl
@[simp] theorem en_55 : enterable Try.prog 55 = true := by kernel_rfl
@[simp] theorem en_56 : enterable Try.prog 56 = true := by kernel_rfl
@[simp] theorem en_57 : enterable Try.prog 57 = true := by kernel_rfl
@[simp] theorem en_58 : enterable Try.prog 58 = true := by kernel_rfl
@[simp] theorem en_59 : enterable Try.prog 59 = true := by kernel_rfl
@[simp] theorem en_60 : enterable Try.prog 60 = true := by kernel_rfl
@[simp] theorem en_61 : enterable Try.prog 61 = true := by kernel_rfl
@[simp] theorem en_62 : enterable Try.prog 62 = true := by kernel_rfl
@[simp] theorem en_63 : enterable Try.prog 63 = true := by kernel_rfl
@[simp] theorem en_64 : enterable Try.prog 64 = true := by kernel_rfl
@[simp] theorem en_65 : enterable Try.prog 65 = true := by kernel_rfl
@[simp] theorem en_66 : enterable Try.prog 66 = true := by kernel_rfl
@[simp] theorem en_67 : enterable Try.prog 67 = true := by kernel_rfl
@[simp] theorem en_68 : enterable Try.prog 68 = true := by kernel_rfl
@[simp] theorem en_69 : enterable Try.prog 69 = true := by kernel_rfl
@[simp] theorem en_70 : enterable Try.prog 70 = true := by kernel_rfl
@[simp] theorem en_71 : enterable Try.prog 71 = true := by kernel_rfl
@[simp] theorem en_72 : enterable Try.prog 72 = true := by kernel_rfl
@[simp] theorem en_73 : enterable Try.prog 73 = true := by kernel_rfl
@[simp] theorem en_74 : enterable Try.prog 74 = true := by kernel_rfl
@[simp] theorem en_75 : enterable Try.prog 75 = true := by kernel_rfl
@[simp] theorem en_76 : enterable Try.prog 76 = true := by kernel_rfl
@[simp] theorem en_77 : enterable Try.prog 77 = true := by kernel_rfl
@[simp] theorem en_78 : enterable Try.prog 78 = true := by kernel_rfl
@[simp] theorem en_80 : enterable Try.prog 80 = true := by kernel_rfl
@[simp] theorem en_81 : enterable Try.prog 81 = true := by kernel_rfl
@[simp] theorem en_82 : enterable Try.prog 82 = true := by kernel_rfl
@[simp] theorem en_83 : enterable Try.prog 83 = true := by kernel_rfl
@[simp] theorem en_84 : enterable Try.prog 84 = true := by kernel_rfl
@[simp] theorem en_85 : enterable Try.prog 85 = true := by kernel_rfl
@[simp] theorem en_86 : enterable Try.prog 86 = true := by kernel_rfl
@[simp] theorem en_87 : enterable Try.prog 87 = true := by kernel_rfl
@[simp] theorem en_88 : enterable Try.prog 88 = true := by kernel_rfl
@[simp] theorem en_89 : enterable Try.prog 89 = true := by kernel_rfl
@[simp] theorem en_90 : enterable Try.prog 90 = true := by kernel_rfl
@[simp] theorem en_91 : enterable Try.prog 91 = true := by kernel_rfl
@[simp] theorem en_92 : enterable Try.prog 92 = true := by kernel_rfl
@[simp] theorem en_93 : enterable Try.prog 93 = true := by kernel_rfl
@[simp] theorem en_94 : enterable Try.prog 94 = true := by kernel_rfl
@[simp] theorem en_95 : enterable Try.prog 95 = true := by kernel_rfl
@[simp] theorem en_96 : enterable Try.prog 96 = true := by kernel_rfl
@[simp] theorem en_97 : enterable Try.prog 97 = true := by kernel_rfl
@[simp] theorem en_98 : enterable Try.prog 98 = true := by kernel_rfl
@[simp] theorem en_99 : enterable Try.prog 99 = true := by kernel_rfl
@[simp] theorem en_100 : enterable Try.prog 100 = true := by kernel_rfl
@[simp] theorem en_101 : enterable Try.prog 101 = true := by kernel_rfl
@[simp] theorem en_102 : enterable Try.prog 102 = true := by kernel_rfl
@[simp] theorem en_103 : enterable Try.prog 103 = true := by kernel_rfl
@[simp] theorem en_104 : enterable Try.prog 104 = true := by kernel_rfl
@[simp] theorem en_105 : enterable Try.prog 105 = true := by kernel_rfl
@[simp] theorem en_106 : enterable Try.prog 106 = true := by kernel_rfl
@[simp] theorem en_107 : enterable Try.prog 107 = true := by kernel_rfl
@[simp] theorem en_108 : enterable Try.prog 108 = true := by kernel_rfl
@[simp] theorem en_109 : enterable Try.prog 109 = true := by kernel_rfl
@[simp] theorem en_110 : enterable Try.prog 110 = true := by kernel_rfl
@[simp] theorem en_111 : enterable Try.prog 111 = true := by kernel_rfl
@[simp] theorem en_112 : enterable Try.prog 112 = true := by kernel_rfl
@[simp] theorem en_113 : enterable Try.prog 113 = true := by kernel_rfl
@[simp] theorem en_114 : enterable Try.prog 114 = true := by kernel_rfl
@[simp] theorem en_115 : enterable Try.prog 115 = true := by kernel_rfl
@[simp] theorem en_116 : enterable Try.prog 116 = true := by kernel_rfl
@[simp] theorem en_117 : enterable Try.prog 117 = true := by kernel_rfl
@[simp] theorem en_118 : enterable Try.prog 118 = true := by kernel_rfl
@[simp] theorem en_119 : enterable Try.prog 119 = true := by kernel_rfl
@[simp] theorem en_120 : enterable Try.prog 120 = true := by kernel_rfl
@[simp] theorem en_121 : enterable Try.prog 121 = true := by kernel_rfl
end Go.Proofs.Ytidhdlhblhbahaa.Am
