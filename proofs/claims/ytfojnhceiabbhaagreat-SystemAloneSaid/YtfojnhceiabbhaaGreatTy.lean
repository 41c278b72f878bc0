/- Closed facts on the types of the translation. -/
import Derived.Test.YtfojnhceiabbhaaGreatProg
import Derived.Test.YtfojnhceiabbhaaGreatAmA
import Derived.KernelRfl
namespace Go.Proofs.YtfojnhceiabbhaaGreat.Am
open Go Go.Proofs
theorem sz_1 : szOf Tryz.prog 1 = some 1 := by kernel_rfl
theorem agg_1 : aggOf Tryz.prog 1 = some false := by kernel_rfl
theorem zero_1 : zeroOf Tryz.prog 1 = some [.nilFunc] := by kernel_rfl
theorem bytes_1 : bytesOf Tryz.prog 1 = some 8 := by kernel_rfl
attribute [simp] sz_1 agg_1 zero_1 bytes_1
theorem sz_2 : szOf Tryz.prog 2 = some 1 := by kernel_rfl
theorem agg_2 : aggOf Tryz.prog 2 = some false := by kernel_rfl
theorem zero_2 : zeroOf Tryz.prog 2 = some [.int .i64 0] := by kernel_rfl
theorem bytes_2 : bytesOf Tryz.prog 2 = some 8 := by kernel_rfl
theorem int_2 : intOfT Tryz.prog 2 = some .i64 := by kernel_rfl
theorem und_2 : (Tryz.prog.underlying 2).isSome = true := by kernel_rfl
attribute [simp] sz_2 agg_2 zero_2 bytes_2 int_2 und_2
theorem sz_3 : szOf Tryz.prog 3 = some 1 := by kernel_rfl
theorem agg_3 : aggOf Tryz.prog 3 = some false := by kernel_rfl
theorem zero_3 : zeroOf Tryz.prog 3 = some [.int .i64 0] := by kernel_rfl
theorem bytes_3 : bytesOf Tryz.prog 3 = some 8 := by kernel_rfl
theorem int_3 : intOfT Tryz.prog 3 = some .i64 := by kernel_rfl
theorem und_3 : (Tryz.prog.underlying 3).isSome = true := by kernel_rfl
attribute [simp] sz_3 agg_3 zero_3 bytes_3 int_3 und_3
theorem sz_4 : szOf Tryz.prog 4 = some 1 := by kernel_rfl
theorem agg_4 : aggOf Tryz.prog 4 = some false := by kernel_rfl
theorem zero_4 : zeroOf Tryz.prog 4 = some [.bool false] := by kernel_rfl
theorem bytes_4 : bytesOf Tryz.prog 4 = some 1 := by kernel_rfl
theorem bool_4 : isBool Tryz.prog 4 = true := by kernel_rfl
attribute [simp] sz_4 agg_4 zero_4 bytes_4 bool_4
theorem sz_5 : szOf Tryz.prog 5 = some 1 := by kernel_rfl
theorem agg_5 : aggOf Tryz.prog 5 = some false := by kernel_rfl
theorem zero_5 : zeroOf Tryz.prog 5 = some [.int .u8 0] := by kernel_rfl
theorem bytes_5 : bytesOf Tryz.prog 5 = some 1 := by kernel_rfl
theorem int_5 : intOfT Tryz.prog 5 = some .u8 := by kernel_rfl
theorem und_5 : (Tryz.prog.underlying 5).isSome = true := by kernel_rfl
attribute [simp] sz_5 agg_5 zero_5 bytes_5 int_5 und_5
theorem sz_6 : szOf Tryz.prog 6 = some 1 := by kernel_rfl
theorem agg_6 : aggOf Tryz.prog 6 = some false := by kernel_rfl
theorem zero_6 : zeroOf Tryz.prog 6 = some [.int .u8 0] := by kernel_rfl
theorem bytes_6 : bytesOf Tryz.prog 6 = some 1 := by kernel_rfl
theorem int_6 : intOfT Tryz.prog 6 = some .u8 := by kernel_rfl
theorem und_6 : (Tryz.prog.underlying 6).isSome = true := by kernel_rfl
attribute [simp] sz_6 agg_6 zero_6 bytes_6 int_6 und_6
theorem sz_7 : szOf Tryz.prog 7 = some 4 := by kernel_rfl
theorem agg_7 : aggOf Tryz.prog 7 = some true := by kernel_rfl
theorem zero_7 : zeroOf Tryz.prog 7 = some [.int .i64 0, .int .i64 0, .bool false, .int .u8 0] := by kernel_rfl
theorem bytes_7 : bytesOf Tryz.prog 7 = some 24 := by kernel_rfl
theorem field_7x0 : fieldOf Tryz.prog 7 0 = some (2, 0) := by kernel_rfl
theorem field_7x1 : fieldOf Tryz.prog 7 1 = some (3, 1) := by kernel_rfl
theorem field_7x2 : fieldOf Tryz.prog 7 2 = some (4, 2) := by kernel_rfl
theorem field_7x3 : fieldOf Tryz.prog 7 3 = some (6, 3) := by kernel_rfl
theorem places_7 : placesOf Tryz.prog 7 = some [(0, 1), (1, 1), (2, 1), (3, 1)] := by kernel_rfl
attribute [simp] sz_7 agg_7 zero_7 bytes_7 field_7x0 field_7x1 field_7x2 field_7x3 places_7
theorem sz_8 : szOf Tryz.prog 8 = some 4 := by kernel_rfl
theorem agg_8 : aggOf Tryz.prog 8 = some true := by kernel_rfl
theorem zero_8 : zeroOf Tryz.prog 8 = some [.int .i64 0, .int .i64 0, .bool false, .int .u8 0] := by kernel_rfl
theorem bytes_8 : bytesOf Tryz.prog 8 = some 24 := by kernel_rfl
theorem field_8x0 : fieldOf Tryz.prog 8 0 = some (2, 0) := by kernel_rfl
theorem field_8x1 : fieldOf Tryz.prog 8 1 = some (3, 1) := by kernel_rfl
theorem field_8x2 : fieldOf Tryz.prog 8 2 = some (4, 2) := by kernel_rfl
theorem field_8x3 : fieldOf Tryz.prog 8 3 = some (6, 3) := by kernel_rfl
theorem places_8 : placesOf Tryz.prog 8 = some [(0, 1), (1, 1), (2, 1), (3, 1)] := by kernel_rfl
attribute [simp] sz_8 agg_8 zero_8 bytes_8 field_8x0 field_8x1 field_8x2 field_8x3 places_8
theorem sz_9 : szOf Tryz.prog 9 = some 1 := by kernel_rfl
theorem agg_9 : aggOf Tryz.prog 9 = some false := by kernel_rfl
theorem zero_9 : zeroOf Tryz.prog 9 = some [.string ⟨#[]⟩] := by kernel_rfl
theorem bytes_9 : bytesOf Tryz.prog 9 = some 16 := by kernel_rfl
theorem str_9 : isStr Tryz.prog 9 = true := by kernel_rfl
attribute [simp] sz_9 agg_9 zero_9 bytes_9 str_9
theorem sz_10 : szOf Tryz.prog 10 = some 1 := by kernel_rfl
theorem agg_10 : aggOf Tryz.prog 10 = some false := by kernel_rfl
theorem zero_10 : zeroOf Tryz.prog 10 = some [.string ⟨#[]⟩] := by kernel_rfl
theorem bytes_10 : bytesOf Tryz.prog 10 = some 16 := by kernel_rfl
theorem str_10 : isStr Tryz.prog 10 = true := by kernel_rfl
attribute [simp] sz_10 agg_10 zero_10 bytes_10 str_10
theorem sz_11 : szOf Tryz.prog 11 = some 1 := by kernel_rfl
theorem agg_11 : aggOf Tryz.prog 11 = some false := by kernel_rfl
theorem zero_11 : zeroOf Tryz.prog 11 = some [.string ⟨#[]⟩] := by kernel_rfl
theorem bytes_11 : bytesOf Tryz.prog 11 = some 16 := by kernel_rfl
theorem str_11 : isStr Tryz.prog 11 = true := by kernel_rfl
attribute [simp] sz_11 agg_11 zero_11 bytes_11 str_11
theorem sz_12 : szOf Tryz.prog 12 = some 1 := by kernel_rfl
theorem agg_12 : aggOf Tryz.prog 12 = some false := by kernel_rfl
theorem zero_12 : zeroOf Tryz.prog 12 = some [.int .u64 0] := by kernel_rfl
theorem bytes_12 : bytesOf Tryz.prog 12 = some 8 := by kernel_rfl
theorem int_12 : intOfT Tryz.prog 12 = some .u64 := by kernel_rfl
theorem und_12 : (Tryz.prog.underlying 12).isSome = true := by kernel_rfl
attribute [simp] sz_12 agg_12 zero_12 bytes_12 int_12 und_12
theorem sz_13 : szOf Tryz.prog 13 = some 2 := by kernel_rfl
theorem agg_13 : aggOf Tryz.prog 13 = some true := by kernel_rfl
theorem zero_13 : zeroOf Tryz.prog 13 = some [.string ⟨#[]⟩, .int .u64 0] := by kernel_rfl
theorem bytes_13 : bytesOf Tryz.prog 13 = some 24 := by kernel_rfl
theorem field_13x0 : fieldOf Tryz.prog 13 0 = some (9, 0) := by kernel_rfl
theorem field_13x1 : fieldOf Tryz.prog 13 1 = some (12, 1) := by kernel_rfl
theorem places_13 : placesOf Tryz.prog 13 = some [(0, 1), (1, 1)] := by kernel_rfl
attribute [simp] sz_13 agg_13 zero_13 bytes_13 field_13x0 field_13x1 places_13
theorem sz_14 : szOf Tryz.prog 14 = some 2 := by kernel_rfl
theorem agg_14 : aggOf Tryz.prog 14 = some true := by kernel_rfl
theorem zero_14 : zeroOf Tryz.prog 14 = some [.string ⟨#[]⟩, .int .u64 0] := by kernel_rfl
theorem bytes_14 : bytesOf Tryz.prog 14 = some 24 := by kernel_rfl
theorem field_14x0 : fieldOf Tryz.prog 14 0 = some (9, 0) := by kernel_rfl
theorem field_14x1 : fieldOf Tryz.prog 14 1 = some (12, 1) := by kernel_rfl
theorem places_14 : placesOf Tryz.prog 14 = some [(0, 1), (1, 1)] := by kernel_rfl
attribute [simp] sz_14 agg_14 zero_14 bytes_14 field_14x0 field_14x1 places_14
theorem sz_15 : szOf Tryz.prog 15 = some 1 := by kernel_rfl
theorem agg_15 : aggOf Tryz.prog 15 = some false := by kernel_rfl
theorem zero_15 : zeroOf Tryz.prog 15 = some [.pointer none] := by kernel_rfl
theorem bytes_15 : bytesOf Tryz.prog 15 = some 8 := by kernel_rfl
theorem ptr_15 : isPtr Tryz.prog 15 = true := by kernel_rfl
attribute [simp] sz_15 agg_15 zero_15 bytes_15 ptr_15
theorem sz_16 : szOf Tryz.prog 16 = some 1 := by kernel_rfl
theorem agg_16 : aggOf Tryz.prog 16 = some false := by kernel_rfl
theorem zero_16 : zeroOf Tryz.prog 16 = some [.pointer none] := by kernel_rfl
theorem bytes_16 : bytesOf Tryz.prog 16 = some 8 := by kernel_rfl
theorem ptr_16 : isPtr Tryz.prog 16 = true := by kernel_rfl
attribute [simp] sz_16 agg_16 zero_16 bytes_16 ptr_16
theorem sz_17 : szOf Tryz.prog 17 = some 1 := by kernel_rfl
theorem agg_17 : aggOf Tryz.prog 17 = some false := by kernel_rfl
theorem zero_17 : zeroOf Tryz.prog 17 = some [.pointer none] := by kernel_rfl
theorem bytes_17 : bytesOf Tryz.prog 17 = some 8 := by kernel_rfl
theorem ptr_17 : isPtr Tryz.prog 17 = true := by kernel_rfl
attribute [simp] sz_17 agg_17 zero_17 bytes_17 ptr_17
theorem sz_18 : szOf Tryz.prog 18 = some 1 := by kernel_rfl
theorem agg_18 : aggOf Tryz.prog 18 = some true := by kernel_rfl
theorem zero_18 : zeroOf Tryz.prog 18 = some [.pointer none] := by kernel_rfl
theorem bytes_18 : bytesOf Tryz.prog 18 = some 8 := by kernel_rfl
theorem field_18x0 : fieldOf Tryz.prog 18 0 = some (17, 0) := by kernel_rfl
theorem places_18 : placesOf Tryz.prog 18 = some [(0, 1)] := by kernel_rfl
attribute [simp] sz_18 agg_18 zero_18 bytes_18 field_18x0 places_18
theorem sz_19 : szOf Tryz.prog 19 = some 1 := by kernel_rfl
theorem agg_19 : aggOf Tryz.prog 19 = some true := by kernel_rfl
theorem zero_19 : zeroOf Tryz.prog 19 = some [.pointer none] := by kernel_rfl
theorem bytes_19 : bytesOf Tryz.prog 19 = some 8 := by kernel_rfl
theorem field_19x0 : fieldOf Tryz.prog 19 0 = some (17, 0) := by kernel_rfl
theorem places_19 : placesOf Tryz.prog 19 = some [(0, 1)] := by kernel_rfl
attribute [simp] sz_19 agg_19 zero_19 bytes_19 field_19x0 places_19
theorem sz_20 : szOf Tryz.prog 20 = some 1 := by kernel_rfl
theorem agg_20 : aggOf Tryz.prog 20 = some false := by kernel_rfl
attribute [simp] sz_20 agg_20
theorem sz_21 : szOf Tryz.prog 21 = some 1 := by kernel_rfl
theorem agg_21 : aggOf Tryz.prog 21 = some false := by kernel_rfl
theorem zero_21 : zeroOf Tryz.prog 21 = some [.int .i32 0] := by kernel_rfl
theorem bytes_21 : bytesOf Tryz.prog 21 = some 4 := by kernel_rfl
theorem int_21 : intOfT Tryz.prog 21 = some .i32 := by kernel_rfl
theorem und_21 : (Tryz.prog.underlying 21).isSome = true := by kernel_rfl
attribute [simp] sz_21 agg_21 zero_21 bytes_21 int_21 und_21
theorem sz_22 : szOf Tryz.prog 22 = some 1 := by kernel_rfl
theorem agg_22 : aggOf Tryz.prog 22 = some false := by kernel_rfl
theorem zero_22 : zeroOf Tryz.prog 22 = some [.slice none 0 0] := by kernel_rfl
theorem bytes_22 : bytesOf Tryz.prog 22 = some 24 := by kernel_rfl
theorem elem_22 : elemOf Tryz.prog 22 = some 3 := by kernel_rfl
attribute [simp] sz_22 agg_22 zero_22 bytes_22 elem_22
theorem sz_23 : szOf Tryz.prog 23 = some 1 := by kernel_rfl
theorem agg_23 : aggOf Tryz.prog 23 = some false := by kernel_rfl
theorem zero_23 : zeroOf Tryz.prog 23 = some [.nilFunc] := by kernel_rfl
theorem bytes_23 : bytesOf Tryz.prog 23 = some 8 := by kernel_rfl
attribute [simp] sz_23 agg_23 zero_23 bytes_23
theorem sz_24 : szOf Tryz.prog 24 = some 1 := by kernel_rfl
theorem agg_24 : aggOf Tryz.prog 24 = some false := by kernel_rfl
theorem zero_24 : zeroOf Tryz.prog 24 = some [.slice none 0 0] := by kernel_rfl
theorem bytes_24 : bytesOf Tryz.prog 24 = some 24 := by kernel_rfl
theorem elem_24 : elemOf Tryz.prog 24 = some 102 := by kernel_rfl
attribute [simp] sz_24 agg_24 zero_24 bytes_24 elem_24
theorem sz_25 : szOf Tryz.prog 25 = some 1 := by kernel_rfl
theorem agg_25 : aggOf Tryz.prog 25 = some false := by kernel_rfl
theorem zero_25 : zeroOf Tryz.prog 25 = some [.slice none 0 0] := by kernel_rfl
theorem bytes_25 : bytesOf Tryz.prog 25 = some 24 := by kernel_rfl
theorem elem_25 : elemOf Tryz.prog 25 = some 48 := by kernel_rfl
attribute [simp] sz_25 agg_25 zero_25 bytes_25 elem_25
theorem sz_26 : szOf Tryz.prog 26 = some 3 := by kernel_rfl
theorem agg_26 : aggOf Tryz.prog 26 = some true := by kernel_rfl
theorem zero_26 : zeroOf Tryz.prog 26 = some [.slice none 0 0, .slice none 0 0, .slice none 0 0] := by kernel_rfl
theorem bytes_26 : bytesOf Tryz.prog 26 = some 72 := by kernel_rfl
theorem field_26x0 : fieldOf Tryz.prog 26 0 = some (24, 0) := by kernel_rfl
theorem field_26x1 : fieldOf Tryz.prog 26 1 = some (22, 1) := by kernel_rfl
theorem field_26x2 : fieldOf Tryz.prog 26 2 = some (25, 2) := by kernel_rfl
theorem places_26 : placesOf Tryz.prog 26 = some [(0, 1), (1, 1), (2, 1)] := by kernel_rfl
attribute [simp] sz_26 agg_26 zero_26 bytes_26 field_26x0 field_26x1 field_26x2 places_26
theorem sz_27 : szOf Tryz.prog 27 = some 3 := by kernel_rfl
theorem agg_27 : aggOf Tryz.prog 27 = some true := by kernel_rfl
theorem zero_27 : zeroOf Tryz.prog 27 = some [.slice none 0 0, .slice none 0 0, .slice none 0 0] := by kernel_rfl
theorem bytes_27 : bytesOf Tryz.prog 27 = some 72 := by kernel_rfl
theorem field_27x0 : fieldOf Tryz.prog 27 0 = some (24, 0) := by kernel_rfl
theorem field_27x1 : fieldOf Tryz.prog 27 1 = some (22, 1) := by kernel_rfl
theorem field_27x2 : fieldOf Tryz.prog 27 2 = some (25, 2) := by kernel_rfl
theorem places_27 : placesOf Tryz.prog 27 = some [(0, 1), (1, 1), (2, 1)] := by kernel_rfl
attribute [simp] sz_27 agg_27 zero_27 bytes_27 field_27x0 field_27x1 field_27x2 places_27
theorem sz_28 : szOf Tryz.prog 28 = some 1 := by kernel_rfl
theorem agg_28 : aggOf Tryz.prog 28 = some false := by kernel_rfl
theorem zero_28 : zeroOf Tryz.prog 28 = some [.slice none 0 0] := by kernel_rfl
theorem bytes_28 : bytesOf Tryz.prog 28 = some 24 := by kernel_rfl
theorem elem_28 : elemOf Tryz.prog 28 = some 82 := by kernel_rfl
attribute [simp] sz_28 agg_28 zero_28 bytes_28 elem_28
theorem sz_29 : szOf Tryz.prog 29 = some 1 := by kernel_rfl
theorem agg_29 : aggOf Tryz.prog 29 = some false := by kernel_rfl
theorem zero_29 : zeroOf Tryz.prog 29 = some [.slice none 0 0] := by kernel_rfl
theorem bytes_29 : bytesOf Tryz.prog 29 = some 24 := by kernel_rfl
theorem elem_29 : elemOf Tryz.prog 29 = some 104 := by kernel_rfl
attribute [simp] sz_29 agg_29 zero_29 bytes_29 elem_29
theorem sz_30 : szOf Tryz.prog 30 = some 7 := by kernel_rfl
theorem agg_30 : aggOf Tryz.prog 30 = some true := by kernel_rfl
theorem zero_30 : zeroOf Tryz.prog 30 = some [.string ⟨#[]⟩, .slice none 0 0, .slice none 0 0, .slice none 0 0, .slice none 0 0, .slice none 0 0, .slice none 0 0] := by kernel_rfl
theorem bytes_30 : bytesOf Tryz.prog 30 = some 160 := by kernel_rfl
theorem field_30x0 : fieldOf Tryz.prog 30 0 = some (9, 0) := by kernel_rfl
theorem field_30x1 : fieldOf Tryz.prog 30 1 = some (22, 1) := by kernel_rfl
theorem field_30x2 : fieldOf Tryz.prog 30 2 = some (22, 2) := by kernel_rfl
theorem field_30x3 : fieldOf Tryz.prog 30 3 = some (22, 3) := by kernel_rfl
theorem field_30x4 : fieldOf Tryz.prog 30 4 = some (22, 4) := by kernel_rfl
theorem field_30x5 : fieldOf Tryz.prog 30 5 = some (28, 5) := by kernel_rfl
theorem field_30x6 : fieldOf Tryz.prog 30 6 = some (29, 6) := by kernel_rfl
theorem places_30 : placesOf Tryz.prog 30 = some [(0, 1), (1, 1), (2, 1), (3, 1), (4, 1), (5, 1), (6, 1)] := by kernel_rfl
attribute [simp] sz_30 agg_30 zero_30 bytes_30 field_30x0 field_30x1 field_30x2 field_30x3 field_30x4 field_30x5 field_30x6 places_30
theorem sz_31 : szOf Tryz.prog 31 = some 7 := by kernel_rfl
theorem agg_31 : aggOf Tryz.prog 31 = some true := by kernel_rfl
theorem zero_31 : zeroOf Tryz.prog 31 = some [.string ⟨#[]⟩, .slice none 0 0, .slice none 0 0, .slice none 0 0, .slice none 0 0, .slice none 0 0, .slice none 0 0] := by kernel_rfl
theorem bytes_31 : bytesOf Tryz.prog 31 = some 160 := by kernel_rfl
theorem field_31x0 : fieldOf Tryz.prog 31 0 = some (9, 0) := by kernel_rfl
theorem field_31x1 : fieldOf Tryz.prog 31 1 = some (22, 1) := by kernel_rfl
theorem field_31x2 : fieldOf Tryz.prog 31 2 = some (22, 2) := by kernel_rfl
theorem field_31x3 : fieldOf Tryz.prog 31 3 = some (22, 3) := by kernel_rfl
theorem field_31x4 : fieldOf Tryz.prog 31 4 = some (22, 4) := by kernel_rfl
theorem field_31x5 : fieldOf Tryz.prog 31 5 = some (28, 5) := by kernel_rfl
theorem field_31x6 : fieldOf Tryz.prog 31 6 = some (29, 6) := by kernel_rfl
theorem places_31 : placesOf Tryz.prog 31 = some [(0, 1), (1, 1), (2, 1), (3, 1), (4, 1), (5, 1), (6, 1)] := by kernel_rfl
attribute [simp] sz_31 agg_31 zero_31 bytes_31 field_31x0 field_31x1 field_31x2 field_31x3 field_31x4 field_31x5 field_31x6 places_31
theorem sz_33 : szOf Tryz.prog 33 = some 1 := by kernel_rfl
theorem agg_33 : aggOf Tryz.prog 33 = some false := by kernel_rfl
theorem zero_33 : zeroOf Tryz.prog 33 = some [.nilFunc] := by kernel_rfl
theorem bytes_33 : bytesOf Tryz.prog 33 = some 8 := by kernel_rfl
attribute [simp] sz_33 agg_33 zero_33 bytes_33
theorem sz_34 : szOf Tryz.prog 34 = some 1 := by kernel_rfl
theorem agg_34 : aggOf Tryz.prog 34 = some false := by kernel_rfl
theorem zero_34 : zeroOf Tryz.prog 34 = some [.slice none 0 0] := by kernel_rfl
theorem bytes_34 : bytesOf Tryz.prog 34 = some 24 := by kernel_rfl
theorem elem_34 : elemOf Tryz.prog 34 = some 58 := by kernel_rfl
attribute [simp] sz_34 agg_34 zero_34 bytes_34 elem_34
theorem sz_35 : szOf Tryz.prog 35 = some 1 := by kernel_rfl
theorem agg_35 : aggOf Tryz.prog 35 = some false := by kernel_rfl
theorem zero_35 : zeroOf Tryz.prog 35 = some [.slice none 0 0] := by kernel_rfl
theorem bytes_35 : bytesOf Tryz.prog 35 = some 24 := by kernel_rfl
theorem elem_35 : elemOf Tryz.prog 35 = some 54 := by kernel_rfl
attribute [simp] sz_35 agg_35 zero_35 bytes_35 elem_35
theorem sz_36 : szOf Tryz.prog 36 = some 1 := by kernel_rfl
theorem agg_36 : aggOf Tryz.prog 36 = some false := by kernel_rfl
theorem zero_36 : zeroOf Tryz.prog 36 = some [.int .i64 0] := by kernel_rfl
theorem bytes_36 : bytesOf Tryz.prog 36 = some 8 := by kernel_rfl
theorem int_36 : intOfT Tryz.prog 36 = some .i64 := by kernel_rfl
theorem und_36 : (Tryz.prog.underlying 36).isSome = true := by kernel_rfl
attribute [simp] sz_36 agg_36 zero_36 bytes_36 int_36 und_36
theorem sz_38 : szOf Tryz.prog 38 = some 1 := by kernel_rfl
theorem agg_38 : aggOf Tryz.prog 38 = some false := by kernel_rfl
theorem zero_38 : zeroOf Tryz.prog 38 = some [.nilFunc] := by kernel_rfl
theorem bytes_38 : bytesOf Tryz.prog 38 = some 8 := by kernel_rfl
attribute [simp] sz_38 agg_38 zero_38 bytes_38
theorem sz_39 : szOf Tryz.prog 39 = some 1 := by kernel_rfl
theorem agg_39 : aggOf Tryz.prog 39 = some false := by kernel_rfl
theorem zero_39 : zeroOf Tryz.prog 39 = some [.nilFunc] := by kernel_rfl
theorem bytes_39 : bytesOf Tryz.prog 39 = some 8 := by kernel_rfl
attribute [simp] sz_39 agg_39 zero_39 bytes_39
theorem sz_40 : szOf Tryz.prog 40 = some 1 := by kernel_rfl
theorem agg_40 : aggOf Tryz.prog 40 = some false := by kernel_rfl
theorem zero_40 : zeroOf Tryz.prog 40 = some [.nilFunc] := by kernel_rfl
theorem bytes_40 : bytesOf Tryz.prog 40 = some 8 := by kernel_rfl
attribute [simp] sz_40 agg_40 zero_40 bytes_40
theorem sz_41 : szOf Tryz.prog 41 = some 2 := by kernel_rfl
theorem agg_41 : aggOf Tryz.prog 41 = some true := by kernel_rfl
theorem zero_41 : zeroOf Tryz.prog 41 = some [.int .i64 0, .int .i64 0] := by kernel_rfl
theorem bytes_41 : bytesOf Tryz.prog 41 = some 16 := by kernel_rfl
theorem eqf_41 : eqfOf Tryz.prog 41 = some [(3, 0), (3, 1)] := by kernel_rfl
theorem ng_41 : noGuard Tryz.prog 41 = true := by kernel_rfl
theorem field_41x0 : fieldOf Tryz.prog 41 0 = some (3, 0) := by kernel_rfl
theorem field_41x1 : fieldOf Tryz.prog 41 1 = some (3, 1) := by kernel_rfl
theorem places_41 : placesOf Tryz.prog 41 = some [(0, 1), (1, 1)] := by kernel_rfl
attribute [simp] sz_41 agg_41 zero_41 bytes_41 eqf_41 ng_41 field_41x0 field_41x1 places_41
theorem sz_42 : szOf Tryz.prog 42 = some 2 := by kernel_rfl
theorem agg_42 : aggOf Tryz.prog 42 = some true := by kernel_rfl
theorem zero_42 : zeroOf Tryz.prog 42 = some [.int .i64 0, .int .i64 0] := by kernel_rfl
theorem bytes_42 : bytesOf Tryz.prog 42 = some 16 := by kernel_rfl
theorem eqf_42 : eqfOf Tryz.prog 42 = some [(3, 0), (3, 1)] := by kernel_rfl
theorem ng_42 : noGuard Tryz.prog 42 = true := by kernel_rfl
theorem field_42x0 : fieldOf Tryz.prog 42 0 = some (3, 0) := by kernel_rfl
theorem field_42x1 : fieldOf Tryz.prog 42 1 = some (3, 1) := by kernel_rfl
theorem places_42 : placesOf Tryz.prog 42 = some [(0, 1), (1, 1)] := by kernel_rfl
attribute [simp] sz_42 agg_42 zero_42 bytes_42 eqf_42 ng_42 field_42x0 field_42x1 places_42
theorem sz_44 : szOf Tryz.prog 44 = some 1 := by kernel_rfl
theorem agg_44 : aggOf Tryz.prog 44 = some false := by kernel_rfl
theorem zero_44 : zeroOf Tryz.prog 44 = some [.nilFunc] := by kernel_rfl
theorem bytes_44 : bytesOf Tryz.prog 44 = some 8 := by kernel_rfl
attribute [simp] sz_44 agg_44 zero_44 bytes_44
theorem sz_45 : szOf Tryz.prog 45 = some 1 := by kernel_rfl
theorem agg_45 : aggOf Tryz.prog 45 = some false := by kernel_rfl
theorem zero_45 : zeroOf Tryz.prog 45 = some [.nilFunc] := by kernel_rfl
theorem bytes_45 : bytesOf Tryz.prog 45 = some 8 := by kernel_rfl
attribute [simp] sz_45 agg_45 zero_45 bytes_45
theorem sz_46 : szOf Tryz.prog 46 = some 1 := by kernel_rfl
theorem agg_46 : aggOf Tryz.prog 46 = some false := by kernel_rfl
theorem zero_46 : zeroOf Tryz.prog 46 = some [.nilFunc] := by kernel_rfl
theorem bytes_46 : bytesOf Tryz.prog 46 = some 8 := by kernel_rfl
attribute [simp] sz_46 agg_46 zero_46 bytes_46
theorem sz_47 : szOf Tryz.prog 47 = some 3 := by kernel_rfl
theorem agg_47 : aggOf Tryz.prog 47 = some true := by kernel_rfl
theorem zero_47 : zeroOf Tryz.prog 47 = some [.int .i64 0, .int .i64 0, .slice none 0 0] := by kernel_rfl
theorem bytes_47 : bytesOf Tryz.prog 47 = some 40 := by kernel_rfl
theorem field_47x0 : fieldOf Tryz.prog 47 0 = some (42, 0) := by kernel_rfl
theorem field_47x1 : fieldOf Tryz.prog 47 1 = some (29, 2) := by kernel_rfl
theorem places_47 : placesOf Tryz.prog 47 = some [(0, 2), (2, 1)] := by kernel_rfl
attribute [simp] sz_47 agg_47 zero_47 bytes_47 field_47x0 field_47x1 places_47
theorem sz_48 : szOf Tryz.prog 48 = some 3 := by kernel_rfl
theorem agg_48 : aggOf Tryz.prog 48 = some true := by kernel_rfl
theorem zero_48 : zeroOf Tryz.prog 48 = some [.int .i64 0, .int .i64 0, .slice none 0 0] := by kernel_rfl
theorem bytes_48 : bytesOf Tryz.prog 48 = some 40 := by kernel_rfl
theorem field_48x0 : fieldOf Tryz.prog 48 0 = some (42, 0) := by kernel_rfl
theorem field_48x1 : fieldOf Tryz.prog 48 1 = some (29, 2) := by kernel_rfl
theorem places_48 : placesOf Tryz.prog 48 = some [(0, 2), (2, 1)] := by kernel_rfl
attribute [simp] sz_48 agg_48 zero_48 bytes_48 field_48x0 field_48x1 places_48
theorem sz_49 : szOf Tryz.prog 49 = some 1 := by kernel_rfl
theorem agg_49 : aggOf Tryz.prog 49 = some false := by kernel_rfl
theorem zero_49 : zeroOf Tryz.prog 49 = some [.nilFunc] := by kernel_rfl
theorem bytes_49 : bytesOf Tryz.prog 49 = some 8 := by kernel_rfl
attribute [simp] sz_49 agg_49 zero_49 bytes_49
theorem sz_50 : szOf Tryz.prog 50 = some 1 := by kernel_rfl
theorem agg_50 : aggOf Tryz.prog 50 = some false := by kernel_rfl
theorem zero_50 : zeroOf Tryz.prog 50 = some [.nilFunc] := by kernel_rfl
theorem bytes_50 : bytesOf Tryz.prog 50 = some 8 := by kernel_rfl
attribute [simp] sz_50 agg_50 zero_50 bytes_50
theorem sz_51 : szOf Tryz.prog 51 = some 1 := by kernel_rfl
theorem agg_51 : aggOf Tryz.prog 51 = some false := by kernel_rfl
theorem zero_51 : zeroOf Tryz.prog 51 = some [.nilFunc] := by kernel_rfl
theorem bytes_51 : bytesOf Tryz.prog 51 = some 8 := by kernel_rfl
attribute [simp] sz_51 agg_51 zero_51 bytes_51
theorem sz_52 : szOf Tryz.prog 52 = some 1 := by kernel_rfl
theorem agg_52 : aggOf Tryz.prog 52 = some false := by kernel_rfl
theorem zero_52 : zeroOf Tryz.prog 52 = some [.nilFunc] := by kernel_rfl
theorem bytes_52 : bytesOf Tryz.prog 52 = some 8 := by kernel_rfl
attribute [simp] sz_52 agg_52 zero_52 bytes_52
theorem sz_53 : szOf Tryz.prog 53 = some 4 := by kernel_rfl
theorem agg_53 : aggOf Tryz.prog 53 = some true := by kernel_rfl
theorem zero_53 : zeroOf Tryz.prog 53 = some [.int .i64 0, .int .i64 0, .int .i64 0, .int .i64 0] := by kernel_rfl
theorem bytes_53 : bytesOf Tryz.prog 53 = some 32 := by kernel_rfl
theorem eqf_53 : eqfOf Tryz.prog 53 = some [(3, 0), (42, 1), (3, 3)] := by kernel_rfl
theorem ng_53 : noGuard Tryz.prog 53 = true := by kernel_rfl
theorem field_53x0 : fieldOf Tryz.prog 53 0 = some (3, 0) := by kernel_rfl
theorem field_53x1 : fieldOf Tryz.prog 53 1 = some (42, 1) := by kernel_rfl
theorem field_53x2 : fieldOf Tryz.prog 53 2 = some (3, 3) := by kernel_rfl
theorem places_53 : placesOf Tryz.prog 53 = some [(0, 1), (1, 2), (3, 1)] := by kernel_rfl
attribute [simp] sz_53 agg_53 zero_53 bytes_53 eqf_53 ng_53 field_53x0 field_53x1 field_53x2 places_53
theorem sz_54 : szOf Tryz.prog 54 = some 4 := by kernel_rfl
theorem agg_54 : aggOf Tryz.prog 54 = some true := by kernel_rfl
theorem zero_54 : zeroOf Tryz.prog 54 = some [.int .i64 0, .int .i64 0, .int .i64 0, .int .i64 0] := by kernel_rfl
theorem bytes_54 : bytesOf Tryz.prog 54 = some 32 := by kernel_rfl
theorem eqf_54 : eqfOf Tryz.prog 54 = some [(3, 0), (42, 1), (3, 3)] := by kernel_rfl
theorem ng_54 : noGuard Tryz.prog 54 = true := by kernel_rfl
theorem field_54x0 : fieldOf Tryz.prog 54 0 = some (3, 0) := by kernel_rfl
theorem field_54x1 : fieldOf Tryz.prog 54 1 = some (42, 1) := by kernel_rfl
theorem field_54x2 : fieldOf Tryz.prog 54 2 = some (3, 3) := by kernel_rfl
theorem places_54 : placesOf Tryz.prog 54 = some [(0, 1), (1, 2), (3, 1)] := by kernel_rfl
attribute [simp] sz_54 agg_54 zero_54 bytes_54 eqf_54 ng_54 field_54x0 field_54x1 field_54x2 places_54
theorem sz_55 : szOf Tryz.prog 55 = some 1 := by kernel_rfl
theorem agg_55 : aggOf Tryz.prog 55 = some false := by kernel_rfl
theorem zero_55 : zeroOf Tryz.prog 55 = some [.nilFunc] := by kernel_rfl
theorem bytes_55 : bytesOf Tryz.prog 55 = some 8 := by kernel_rfl
attribute [simp] sz_55 agg_55 zero_55 bytes_55
theorem sz_56 : szOf Tryz.prog 56 = some 1 := by kernel_rfl
theorem agg_56 : aggOf Tryz.prog 56 = some false := by kernel_rfl
theorem zero_56 : zeroOf Tryz.prog 56 = some [.nilFunc] := by kernel_rfl
theorem bytes_56 : bytesOf Tryz.prog 56 = some 8 := by kernel_rfl
attribute [simp] sz_56 agg_56 zero_56 bytes_56
theorem sz_57 : szOf Tryz.prog 57 = some 5 := by kernel_rfl
theorem agg_57 : aggOf Tryz.prog 57 = some true := by kernel_rfl
theorem zero_57 : zeroOf Tryz.prog 57 = some [.int .i64 0, .int .i64 0, .int .i64 0, .int .i64 0, .slice none 0 0] := by kernel_rfl
theorem bytes_57 : bytesOf Tryz.prog 57 = some 56 := by kernel_rfl
theorem field_57x0 : fieldOf Tryz.prog 57 0 = some (3, 0) := by kernel_rfl
theorem field_57x1 : fieldOf Tryz.prog 57 1 = some (42, 1) := by kernel_rfl
theorem field_57x2 : fieldOf Tryz.prog 57 2 = some (3, 3) := by kernel_rfl
theorem field_57x3 : fieldOf Tryz.prog 57 3 = some (29, 4) := by kernel_rfl
theorem places_57 : placesOf Tryz.prog 57 = some [(0, 1), (1, 2), (3, 1), (4, 1)] := by kernel_rfl
attribute [simp] sz_57 agg_57 zero_57 bytes_57 field_57x0 field_57x1 field_57x2 field_57x3 places_57
theorem sz_58 : szOf Tryz.prog 58 = some 5 := by kernel_rfl
theorem agg_58 : aggOf Tryz.prog 58 = some true := by kernel_rfl
theorem zero_58 : zeroOf Tryz.prog 58 = some [.int .i64 0, .int .i64 0, .int .i64 0, .int .i64 0, .slice none 0 0] := by kernel_rfl
theorem bytes_58 : bytesOf Tryz.prog 58 = some 56 := by kernel_rfl
theorem field_58x0 : fieldOf Tryz.prog 58 0 = some (3, 0) := by kernel_rfl
theorem field_58x1 : fieldOf Tryz.prog 58 1 = some (42, 1) := by kernel_rfl
theorem field_58x2 : fieldOf Tryz.prog 58 2 = some (3, 3) := by kernel_rfl
theorem field_58x3 : fieldOf Tryz.prog 58 3 = some (29, 4) := by kernel_rfl
theorem places_58 : placesOf Tryz.prog 58 = some [(0, 1), (1, 2), (3, 1), (4, 1)] := by kernel_rfl
attribute [simp] sz_58 agg_58 zero_58 bytes_58 field_58x0 field_58x1 field_58x2 field_58x3 places_58
theorem sz_59 : szOf Tryz.prog 59 = some 1 := by kernel_rfl
theorem agg_59 : aggOf Tryz.prog 59 = some false := by kernel_rfl
theorem zero_59 : zeroOf Tryz.prog 59 = some [.nilFunc] := by kernel_rfl
theorem bytes_59 : bytesOf Tryz.prog 59 = some 8 := by kernel_rfl
attribute [simp] sz_59 agg_59 zero_59 bytes_59
theorem sz_60 : szOf Tryz.prog 60 = some 1 := by kernel_rfl
theorem agg_60 : aggOf Tryz.prog 60 = some false := by kernel_rfl
theorem zero_60 : zeroOf Tryz.prog 60 = some [.nilFunc] := by kernel_rfl
theorem bytes_60 : bytesOf Tryz.prog 60 = some 8 := by kernel_rfl
attribute [simp] sz_60 agg_60 zero_60 bytes_60
theorem sz_61 : szOf Tryz.prog 61 = some 1 := by kernel_rfl
theorem agg_61 : aggOf Tryz.prog 61 = some false := by kernel_rfl
theorem zero_61 : zeroOf Tryz.prog 61 = some [.nilFunc] := by kernel_rfl
theorem bytes_61 : bytesOf Tryz.prog 61 = some 8 := by kernel_rfl
attribute [simp] sz_61 agg_61 zero_61 bytes_61
theorem sz_62 : szOf Tryz.prog 62 = some 1 := by kernel_rfl
theorem agg_62 : aggOf Tryz.prog 62 = some false := by kernel_rfl
theorem zero_62 : zeroOf Tryz.prog 62 = some [.nilFunc] := by kernel_rfl
theorem bytes_62 : bytesOf Tryz.prog 62 = some 8 := by kernel_rfl
attribute [simp] sz_62 agg_62 zero_62 bytes_62
theorem sz_63 : szOf Tryz.prog 63 = some 1 := by kernel_rfl
theorem agg_63 : aggOf Tryz.prog 63 = some false := by kernel_rfl
theorem zero_63 : zeroOf Tryz.prog 63 = some [.nilFunc] := by kernel_rfl
theorem bytes_63 : bytesOf Tryz.prog 63 = some 8 := by kernel_rfl
attribute [simp] sz_63 agg_63 zero_63 bytes_63
theorem sz_64 : szOf Tryz.prog 64 = some 1 := by kernel_rfl
theorem agg_64 : aggOf Tryz.prog 64 = some false := by kernel_rfl
theorem zero_64 : zeroOf Tryz.prog 64 = some [.nilFunc] := by kernel_rfl
theorem bytes_64 : bytesOf Tryz.prog 64 = some 8 := by kernel_rfl
attribute [simp] sz_64 agg_64 zero_64 bytes_64
theorem sz_65 : szOf Tryz.prog 65 = some 1 := by kernel_rfl
theorem agg_65 : aggOf Tryz.prog 65 = some false := by kernel_rfl
theorem zero_65 : zeroOf Tryz.prog 65 = some [.nilFunc] := by kernel_rfl
theorem bytes_65 : bytesOf Tryz.prog 65 = some 8 := by kernel_rfl
attribute [simp] sz_65 agg_65 zero_65 bytes_65
theorem sz_66 : szOf Tryz.prog 66 = some 1 := by kernel_rfl
theorem agg_66 : aggOf Tryz.prog 66 = some false := by kernel_rfl
theorem zero_66 : zeroOf Tryz.prog 66 = some [.nilFunc] := by kernel_rfl
theorem bytes_66 : bytesOf Tryz.prog 66 = some 8 := by kernel_rfl
attribute [simp] sz_66 agg_66 zero_66 bytes_66
theorem sz_67 : szOf Tryz.prog 67 = some 1 := by kernel_rfl
theorem agg_67 : aggOf Tryz.prog 67 = some false := by kernel_rfl
theorem zero_67 : zeroOf Tryz.prog 67 = some [.pointer none] := by kernel_rfl
theorem bytes_67 : bytesOf Tryz.prog 67 = some 8 := by kernel_rfl
theorem ptr_67 : isPtr Tryz.prog 67 = true := by kernel_rfl
attribute [simp] sz_67 agg_67 zero_67 bytes_67 ptr_67
theorem sz_68 : szOf Tryz.prog 68 = some 1 := by kernel_rfl
theorem agg_68 : aggOf Tryz.prog 68 = some false := by kernel_rfl
theorem zero_68 : zeroOf Tryz.prog 68 = some [.int .u64 0] := by kernel_rfl
theorem bytes_68 : bytesOf Tryz.prog 68 = some 8 := by kernel_rfl
theorem int_68 : intOfT Tryz.prog 68 = some .u64 := by kernel_rfl
theorem und_68 : (Tryz.prog.underlying 68).isSome = true := by kernel_rfl
attribute [simp] sz_68 agg_68 zero_68 bytes_68 int_68 und_68
theorem sz_69 : szOf Tryz.prog 69 = some 2 := by kernel_rfl
theorem agg_69 : aggOf Tryz.prog 69 = some true := by kernel_rfl
theorem zero_69 : zeroOf Tryz.prog 69 = some [.int .u64 0, .int .u64 0] := by kernel_rfl
theorem bytes_69 : bytesOf Tryz.prog 69 = some 16 := by kernel_rfl
theorem eqf_69 : eqfOf Tryz.prog 69 = some [(68, 0), (68, 1)] := by kernel_rfl
theorem ng_69 : noGuard Tryz.prog 69 = true := by kernel_rfl
theorem field_69x0 : fieldOf Tryz.prog 69 0 = some (68, 0) := by kernel_rfl
theorem field_69x1 : fieldOf Tryz.prog 69 1 = some (68, 1) := by kernel_rfl
theorem places_69 : placesOf Tryz.prog 69 = some [(0, 1), (1, 1)] := by kernel_rfl
attribute [simp] sz_69 agg_69 zero_69 bytes_69 eqf_69 ng_69 field_69x0 field_69x1 places_69
theorem sz_70 : szOf Tryz.prog 70 = some 2 := by kernel_rfl
theorem agg_70 : aggOf Tryz.prog 70 = some true := by kernel_rfl
theorem zero_70 : zeroOf Tryz.prog 70 = some [.int .u64 0, .int .u64 0] := by kernel_rfl
theorem bytes_70 : bytesOf Tryz.prog 70 = some 16 := by kernel_rfl
theorem eqf_70 : eqfOf Tryz.prog 70 = some [(68, 0), (68, 1)] := by kernel_rfl
theorem ng_70 : noGuard Tryz.prog 70 = true := by kernel_rfl
theorem field_70x0 : fieldOf Tryz.prog 70 0 = some (68, 0) := by kernel_rfl
theorem field_70x1 : fieldOf Tryz.prog 70 1 = some (68, 1) := by kernel_rfl
theorem places_70 : placesOf Tryz.prog 70 = some [(0, 1), (1, 1)] := by kernel_rfl
attribute [simp] sz_70 agg_70 zero_70 bytes_70 eqf_70 ng_70 field_70x0 field_70x1 places_70
theorem sz_71 : szOf Tryz.prog 71 = some 16 := by kernel_rfl
theorem agg_71 : aggOf Tryz.prog 71 = some true := by kernel_rfl
theorem zero_71 : zeroOf Tryz.prog 71 = some [.slice none 0 0, .string ⟨#[]⟩, .slice none 0 0, .slice none 0 0, .slice none 0 0, .slice none 0 0, .slice none 0 0, .slice none 0 0, .int .i64 0, .int .i64 0, .slice none 0 0, .int .u64 0, .int .u64 0, .slice none 0 0, .slice none 0 0, .int .i64 0] := by kernel_rfl
theorem bytes_71 : bytesOf Tryz.prog 71 = some 296 := by kernel_rfl
theorem field_71x0 : fieldOf Tryz.prog 71 0 = some (24, 0) := by kernel_rfl
theorem field_71x1 : fieldOf Tryz.prog 71 1 = some (31, 1) := by kernel_rfl
theorem field_71x2 : fieldOf Tryz.prog 71 2 = some (48, 8) := by kernel_rfl
theorem field_71x3 : fieldOf Tryz.prog 71 3 = some (70, 11) := by kernel_rfl
theorem field_71x4 : fieldOf Tryz.prog 71 4 = some (34, 13) := by kernel_rfl
theorem field_71x5 : fieldOf Tryz.prog 71 5 = some (35, 14) := by kernel_rfl
theorem field_71x6 : fieldOf Tryz.prog 71 6 = some (3, 15) := by kernel_rfl
theorem places_71 : placesOf Tryz.prog 71 = some [(0, 1), (1, 7), (8, 3), (11, 2), (13, 1), (14, 1), (15, 1)] := by kernel_rfl
attribute [simp] sz_71 agg_71 zero_71 bytes_71 field_71x0 field_71x1 field_71x2 field_71x3 field_71x4 field_71x5 field_71x6 places_71
theorem sz_72 : szOf Tryz.prog 72 = some 16 := by kernel_rfl
theorem agg_72 : aggOf Tryz.prog 72 = some true := by kernel_rfl
theorem zero_72 : zeroOf Tryz.prog 72 = some [.slice none 0 0, .string ⟨#[]⟩, .slice none 0 0, .slice none 0 0, .slice none 0 0, .slice none 0 0, .slice none 0 0, .slice none 0 0, .int .i64 0, .int .i64 0, .slice none 0 0, .int .u64 0, .int .u64 0, .slice none 0 0, .slice none 0 0, .int .i64 0] := by kernel_rfl
theorem bytes_72 : bytesOf Tryz.prog 72 = some 296 := by kernel_rfl
theorem field_72x0 : fieldOf Tryz.prog 72 0 = some (24, 0) := by kernel_rfl
theorem field_72x1 : fieldOf Tryz.prog 72 1 = some (31, 1) := by kernel_rfl
theorem field_72x2 : fieldOf Tryz.prog 72 2 = some (48, 8) := by kernel_rfl
theorem field_72x3 : fieldOf Tryz.prog 72 3 = some (70, 11) := by kernel_rfl
theorem field_72x4 : fieldOf Tryz.prog 72 4 = some (34, 13) := by kernel_rfl
theorem field_72x5 : fieldOf Tryz.prog 72 5 = some (35, 14) := by kernel_rfl
theorem field_72x6 : fieldOf Tryz.prog 72 6 = some (3, 15) := by kernel_rfl
theorem places_72 : placesOf Tryz.prog 72 = some [(0, 1), (1, 7), (8, 3), (11, 2), (13, 1), (14, 1), (15, 1)] := by kernel_rfl
attribute [simp] sz_72 agg_72 zero_72 bytes_72 field_72x0 field_72x1 field_72x2 field_72x3 field_72x4 field_72x5 field_72x6 places_72
theorem sz_73 : szOf Tryz.prog 73 = some 1 := by kernel_rfl
theorem agg_73 : aggOf Tryz.prog 73 = some false := by kernel_rfl
theorem zero_73 : zeroOf Tryz.prog 73 = some [.nilFunc] := by kernel_rfl
theorem bytes_73 : bytesOf Tryz.prog 73 = some 8 := by kernel_rfl
attribute [simp] sz_73 agg_73 zero_73 bytes_73
theorem sz_74 : szOf Tryz.prog 74 = some 1 := by kernel_rfl
theorem agg_74 : aggOf Tryz.prog 74 = some false := by kernel_rfl
theorem zero_74 : zeroOf Tryz.prog 74 = some [.nilFunc] := by kernel_rfl
theorem bytes_74 : bytesOf Tryz.prog 74 = some 8 := by kernel_rfl
attribute [simp] sz_74 agg_74 zero_74 bytes_74
theorem sz_75 : szOf Tryz.prog 75 = some 1 := by kernel_rfl
theorem agg_75 : aggOf Tryz.prog 75 = some false := by kernel_rfl
theorem zero_75 : zeroOf Tryz.prog 75 = some [.nilFunc] := by kernel_rfl
theorem bytes_75 : bytesOf Tryz.prog 75 = some 8 := by kernel_rfl
attribute [simp] sz_75 agg_75 zero_75 bytes_75
theorem sz_76 : szOf Tryz.prog 76 = some 1 := by kernel_rfl
theorem agg_76 : aggOf Tryz.prog 76 = some false := by kernel_rfl
theorem zero_76 : zeroOf Tryz.prog 76 = some [.nilFunc] := by kernel_rfl
theorem bytes_76 : bytesOf Tryz.prog 76 = some 8 := by kernel_rfl
attribute [simp] sz_76 agg_76 zero_76 bytes_76
theorem sz_77 : szOf Tryz.prog 77 = some 2 := by kernel_rfl
theorem agg_77 : aggOf Tryz.prog 77 = some true := by kernel_rfl
theorem zero_77 : zeroOf Tryz.prog 77 = some [.int .i64 0, .int .i64 0] := by kernel_rfl
theorem bytes_77 : bytesOf Tryz.prog 77 = some 16 := by kernel_rfl
theorem eqf_77 : eqfOf Tryz.prog 77 = some [(3, 0), (3, 1)] := by kernel_rfl
theorem ng_77 : noGuard Tryz.prog 77 = true := by kernel_rfl
theorem field_77x0 : fieldOf Tryz.prog 77 0 = some (3, 0) := by kernel_rfl
theorem field_77x1 : fieldOf Tryz.prog 77 1 = some (3, 1) := by kernel_rfl
theorem places_77 : placesOf Tryz.prog 77 = some [(0, 1), (1, 1)] := by kernel_rfl
attribute [simp] sz_77 agg_77 zero_77 bytes_77 eqf_77 ng_77 field_77x0 field_77x1 places_77
theorem sz_78 : szOf Tryz.prog 78 = some 2 := by kernel_rfl
theorem agg_78 : aggOf Tryz.prog 78 = some true := by kernel_rfl
theorem zero_78 : zeroOf Tryz.prog 78 = some [.int .i64 0, .int .i64 0] := by kernel_rfl
theorem bytes_78 : bytesOf Tryz.prog 78 = some 16 := by kernel_rfl
theorem eqf_78 : eqfOf Tryz.prog 78 = some [(3, 0), (3, 1)] := by kernel_rfl
theorem ng_78 : noGuard Tryz.prog 78 = true := by kernel_rfl
theorem field_78x0 : fieldOf Tryz.prog 78 0 = some (3, 0) := by kernel_rfl
theorem field_78x1 : fieldOf Tryz.prog 78 1 = some (3, 1) := by kernel_rfl
theorem places_78 : placesOf Tryz.prog 78 = some [(0, 1), (1, 1)] := by kernel_rfl
attribute [simp] sz_78 agg_78 zero_78 bytes_78 eqf_78 ng_78 field_78x0 field_78x1 places_78
theorem sz_79 : szOf Tryz.prog 79 = some 4 := by kernel_rfl
theorem agg_79 : aggOf Tryz.prog 79 = some true := by kernel_rfl
theorem zero_79 : zeroOf Tryz.prog 79 = some [.bool false, .int .i64 0, .int .i64 0, .int .i64 0] := by kernel_rfl
theorem bytes_79 : bytesOf Tryz.prog 79 = some 32 := by kernel_rfl
theorem eqf_79 : eqfOf Tryz.prog 79 = some [(4, 0), (3, 1), (78, 2)] := by kernel_rfl
theorem ng_79 : noGuard Tryz.prog 79 = true := by kernel_rfl
theorem field_79x0 : fieldOf Tryz.prog 79 0 = some (4, 0) := by kernel_rfl
theorem field_79x1 : fieldOf Tryz.prog 79 1 = some (3, 1) := by kernel_rfl
theorem field_79x2 : fieldOf Tryz.prog 79 2 = some (78, 2) := by kernel_rfl
theorem places_79 : placesOf Tryz.prog 79 = some [(0, 1), (1, 1), (2, 2)] := by kernel_rfl
attribute [simp] sz_79 agg_79 zero_79 bytes_79 eqf_79 ng_79 field_79x0 field_79x1 field_79x2 places_79
theorem sz_80 : szOf Tryz.prog 80 = some 4 := by kernel_rfl
theorem agg_80 : aggOf Tryz.prog 80 = some true := by kernel_rfl
theorem zero_80 : zeroOf Tryz.prog 80 = some [.bool false, .int .i64 0, .int .i64 0, .int .i64 0] := by kernel_rfl
theorem bytes_80 : bytesOf Tryz.prog 80 = some 32 := by kernel_rfl
theorem eqf_80 : eqfOf Tryz.prog 80 = some [(4, 0), (3, 1), (78, 2)] := by kernel_rfl
theorem ng_80 : noGuard Tryz.prog 80 = true := by kernel_rfl
theorem field_80x0 : fieldOf Tryz.prog 80 0 = some (4, 0) := by kernel_rfl
theorem field_80x1 : fieldOf Tryz.prog 80 1 = some (3, 1) := by kernel_rfl
theorem field_80x2 : fieldOf Tryz.prog 80 2 = some (78, 2) := by kernel_rfl
theorem places_80 : placesOf Tryz.prog 80 = some [(0, 1), (1, 1), (2, 2)] := by kernel_rfl
attribute [simp] sz_80 agg_80 zero_80 bytes_80 eqf_80 ng_80 field_80x0 field_80x1 field_80x2 places_80
theorem sz_81 : szOf Tryz.prog 81 = some 11 := by kernel_rfl
theorem agg_81 : aggOf Tryz.prog 81 = some true := by kernel_rfl
theorem zero_81 : zeroOf Tryz.prog 81 = some [.int .i64 0, .int .i64 0, .int .i64 0, .bool false, .int .i64 0, .int .i64 0, .int .i64 0, .bool false, .int .i64 0, .int .i64 0, .int .i64 0] := by kernel_rfl
theorem bytes_81 : bytesOf Tryz.prog 81 = some 88 := by kernel_rfl
theorem eqf_81 : eqfOf Tryz.prog 81 = some [(3, 0), (78, 1), (80, 3), (80, 7)] := by kernel_rfl
theorem ng_81 : noGuard Tryz.prog 81 = true := by kernel_rfl
theorem field_81x0 : fieldOf Tryz.prog 81 0 = some (3, 0) := by kernel_rfl
theorem field_81x1 : fieldOf Tryz.prog 81 1 = some (78, 1) := by kernel_rfl
theorem field_81x2 : fieldOf Tryz.prog 81 2 = some (80, 3) := by kernel_rfl
theorem field_81x3 : fieldOf Tryz.prog 81 3 = some (80, 7) := by kernel_rfl
theorem places_81 : placesOf Tryz.prog 81 = some [(0, 1), (1, 2), (3, 4), (7, 4)] := by kernel_rfl
attribute [simp] sz_81 agg_81 zero_81 bytes_81 eqf_81 ng_81 field_81x0 field_81x1 field_81x2 field_81x3 places_81
theorem sz_82 : szOf Tryz.prog 82 = some 11 := by kernel_rfl
theorem agg_82 : aggOf Tryz.prog 82 = some true := by kernel_rfl
theorem zero_82 : zeroOf Tryz.prog 82 = some [.int .i64 0, .int .i64 0, .int .i64 0, .bool false, .int .i64 0, .int .i64 0, .int .i64 0, .bool false, .int .i64 0, .int .i64 0, .int .i64 0] := by kernel_rfl
theorem bytes_82 : bytesOf Tryz.prog 82 = some 88 := by kernel_rfl
theorem eqf_82 : eqfOf Tryz.prog 82 = some [(3, 0), (78, 1), (80, 3), (80, 7)] := by kernel_rfl
theorem ng_82 : noGuard Tryz.prog 82 = true := by kernel_rfl
theorem field_82x0 : fieldOf Tryz.prog 82 0 = some (3, 0) := by kernel_rfl
theorem field_82x1 : fieldOf Tryz.prog 82 1 = some (78, 1) := by kernel_rfl
theorem field_82x2 : fieldOf Tryz.prog 82 2 = some (80, 3) := by kernel_rfl
theorem field_82x3 : fieldOf Tryz.prog 82 3 = some (80, 7) := by kernel_rfl
theorem places_82 : placesOf Tryz.prog 82 = some [(0, 1), (1, 2), (3, 4), (7, 4)] := by kernel_rfl
attribute [simp] sz_82 agg_82 zero_82 bytes_82 eqf_82 ng_82 field_82x0 field_82x1 field_82x2 field_82x3 places_82
theorem sz_83 : szOf Tryz.prog 83 = some 1 := by kernel_rfl
theorem agg_83 : aggOf Tryz.prog 83 = some false := by kernel_rfl
theorem zero_83 : zeroOf Tryz.prog 83 = some [.nilFunc] := by kernel_rfl
theorem bytes_83 : bytesOf Tryz.prog 83 = some 8 := by kernel_rfl
attribute [simp] sz_83 agg_83 zero_83 bytes_83
theorem sz_84 : szOf Tryz.prog 84 = some 1 := by kernel_rfl
theorem agg_84 : aggOf Tryz.prog 84 = some false := by kernel_rfl
theorem zero_84 : zeroOf Tryz.prog 84 = some [.nilFunc] := by kernel_rfl
theorem bytes_84 : bytesOf Tryz.prog 84 = some 8 := by kernel_rfl
attribute [simp] sz_84 agg_84 zero_84 bytes_84
theorem sz_85 : szOf Tryz.prog 85 = some 1 := by kernel_rfl
theorem agg_85 : aggOf Tryz.prog 85 = some false := by kernel_rfl
theorem zero_85 : zeroOf Tryz.prog 85 = some [.nilFunc] := by kernel_rfl
theorem bytes_85 : bytesOf Tryz.prog 85 = some 8 := by kernel_rfl
attribute [simp] sz_85 agg_85 zero_85 bytes_85
theorem sz_86 : szOf Tryz.prog 86 = some 1 := by kernel_rfl
theorem agg_86 : aggOf Tryz.prog 86 = some false := by kernel_rfl
theorem zero_86 : zeroOf Tryz.prog 86 = some [.nilFunc] := by kernel_rfl
theorem bytes_86 : bytesOf Tryz.prog 86 = some 8 := by kernel_rfl
attribute [simp] sz_86 agg_86 zero_86 bytes_86
theorem sz_87 : szOf Tryz.prog 87 = some 1 := by kernel_rfl
theorem agg_87 : aggOf Tryz.prog 87 = some false := by kernel_rfl
theorem zero_87 : zeroOf Tryz.prog 87 = some [.pointer none] := by kernel_rfl
theorem bytes_87 : bytesOf Tryz.prog 87 = some 8 := by kernel_rfl
theorem ptr_87 : isPtr Tryz.prog 87 = true := by kernel_rfl
attribute [simp] sz_87 agg_87 zero_87 bytes_87 ptr_87
theorem sz_88 : szOf Tryz.prog 88 = some 1 := by kernel_rfl
theorem agg_88 : aggOf Tryz.prog 88 = some true := by kernel_rfl
theorem zero_88 : zeroOf Tryz.prog 88 = some [.slice none 0 0] := by kernel_rfl
theorem bytes_88 : bytesOf Tryz.prog 88 = some 24 := by kernel_rfl
theorem field_88x0 : fieldOf Tryz.prog 88 0 = some (22, 0) := by kernel_rfl
theorem places_88 : placesOf Tryz.prog 88 = some [(0, 1)] := by kernel_rfl
attribute [simp] sz_88 agg_88 zero_88 bytes_88 field_88x0 places_88
theorem sz_89 : szOf Tryz.prog 89 = some 1 := by kernel_rfl
theorem agg_89 : aggOf Tryz.prog 89 = some true := by kernel_rfl
theorem zero_89 : zeroOf Tryz.prog 89 = some [.slice none 0 0] := by kernel_rfl
theorem bytes_89 : bytesOf Tryz.prog 89 = some 24 := by kernel_rfl
theorem field_89x0 : fieldOf Tryz.prog 89 0 = some (22, 0) := by kernel_rfl
theorem places_89 : placesOf Tryz.prog 89 = some [(0, 1)] := by kernel_rfl
attribute [simp] sz_89 agg_89 zero_89 bytes_89 field_89x0 places_89
theorem sz_90 : szOf Tryz.prog 90 = some 1 := by kernel_rfl
theorem agg_90 : aggOf Tryz.prog 90 = some false := by kernel_rfl
theorem zero_90 : zeroOf Tryz.prog 90 = some [.nilFunc] := by kernel_rfl
theorem bytes_90 : bytesOf Tryz.prog 90 = some 8 := by kernel_rfl
attribute [simp] sz_90 agg_90 zero_90 bytes_90
theorem sz_91 : szOf Tryz.prog 91 = some 1 := by kernel_rfl
theorem agg_91 : aggOf Tryz.prog 91 = some false := by kernel_rfl
theorem zero_91 : zeroOf Tryz.prog 91 = some [.nilFunc] := by kernel_rfl
theorem bytes_91 : bytesOf Tryz.prog 91 = some 8 := by kernel_rfl
attribute [simp] sz_91 agg_91 zero_91 bytes_91
theorem sz_92 : szOf Tryz.prog 92 = some 1 := by kernel_rfl
theorem agg_92 : aggOf Tryz.prog 92 = some false := by kernel_rfl
theorem zero_92 : zeroOf Tryz.prog 92 = some [.nilFunc] := by kernel_rfl
theorem bytes_92 : bytesOf Tryz.prog 92 = some 8 := by kernel_rfl
attribute [simp] sz_92 agg_92 zero_92 bytes_92
theorem sz_93 : szOf Tryz.prog 93 = some 1 := by kernel_rfl
theorem agg_93 : aggOf Tryz.prog 93 = some false := by kernel_rfl
theorem zero_93 : zeroOf Tryz.prog 93 = some [.nilFunc] := by kernel_rfl
theorem bytes_93 : bytesOf Tryz.prog 93 = some 8 := by kernel_rfl
attribute [simp] sz_93 agg_93 zero_93 bytes_93
theorem sz_94 : szOf Tryz.prog 94 = some 1 := by kernel_rfl
theorem agg_94 : aggOf Tryz.prog 94 = some false := by kernel_rfl
theorem zero_94 : zeroOf Tryz.prog 94 = some [.nilFunc] := by kernel_rfl
theorem bytes_94 : bytesOf Tryz.prog 94 = some 8 := by kernel_rfl
attribute [simp] sz_94 agg_94 zero_94 bytes_94
theorem sz_95 : szOf Tryz.prog 95 = some 1 := by kernel_rfl
theorem agg_95 : aggOf Tryz.prog 95 = some false := by kernel_rfl
theorem zero_95 : zeroOf Tryz.prog 95 = some [.nilFunc] := by kernel_rfl
theorem bytes_95 : bytesOf Tryz.prog 95 = some 8 := by kernel_rfl
attribute [simp] sz_95 agg_95 zero_95 bytes_95
theorem sz_96 : szOf Tryz.prog 96 = some 1 := by kernel_rfl
theorem agg_96 : aggOf Tryz.prog 96 = some false := by kernel_rfl
theorem zero_96 : zeroOf Tryz.prog 96 = some [.nilFunc] := by kernel_rfl
theorem bytes_96 : bytesOf Tryz.prog 96 = some 8 := by kernel_rfl
attribute [simp] sz_96 agg_96 zero_96 bytes_96
theorem sz_97 : szOf Tryz.prog 97 = some 1 := by kernel_rfl
theorem agg_97 : aggOf Tryz.prog 97 = some false := by kernel_rfl
theorem zero_97 : zeroOf Tryz.prog 97 = some [.nilFunc] := by kernel_rfl
theorem bytes_97 : bytesOf Tryz.prog 97 = some 8 := by kernel_rfl
attribute [simp] sz_97 agg_97 zero_97 bytes_97
theorem sz_98 : szOf Tryz.prog 98 = some 3 := by kernel_rfl
theorem agg_98 : aggOf Tryz.prog 98 = some true := by kernel_rfl
theorem zero_98 : zeroOf Tryz.prog 98 = some [.string ⟨#[]⟩, .int .i64 0, .int .i64 0] := by kernel_rfl
theorem bytes_98 : bytesOf Tryz.prog 98 = some 32 := by kernel_rfl
theorem eqf_98 : eqfOf Tryz.prog 98 = some [(9, 0), (3, 1), (3, 2)] := by kernel_rfl
theorem ng_98 : noGuard Tryz.prog 98 = true := by kernel_rfl
theorem field_98x0 : fieldOf Tryz.prog 98 0 = some (9, 0) := by kernel_rfl
theorem field_98x1 : fieldOf Tryz.prog 98 1 = some (3, 1) := by kernel_rfl
theorem field_98x2 : fieldOf Tryz.prog 98 2 = some (3, 2) := by kernel_rfl
theorem places_98 : placesOf Tryz.prog 98 = some [(0, 1), (1, 1), (2, 1)] := by kernel_rfl
attribute [simp] sz_98 agg_98 zero_98 bytes_98 eqf_98 ng_98 field_98x0 field_98x1 field_98x2 places_98
theorem sz_99 : szOf Tryz.prog 99 = some 3 := by kernel_rfl
theorem agg_99 : aggOf Tryz.prog 99 = some true := by kernel_rfl
theorem zero_99 : zeroOf Tryz.prog 99 = some [.string ⟨#[]⟩, .int .i64 0, .int .i64 0] := by kernel_rfl
theorem bytes_99 : bytesOf Tryz.prog 99 = some 32 := by kernel_rfl
theorem eqf_99 : eqfOf Tryz.prog 99 = some [(9, 0), (3, 1), (3, 2)] := by kernel_rfl
theorem ng_99 : noGuard Tryz.prog 99 = true := by kernel_rfl
theorem field_99x0 : fieldOf Tryz.prog 99 0 = some (9, 0) := by kernel_rfl
theorem field_99x1 : fieldOf Tryz.prog 99 1 = some (3, 1) := by kernel_rfl
theorem field_99x2 : fieldOf Tryz.prog 99 2 = some (3, 2) := by kernel_rfl
theorem places_99 : placesOf Tryz.prog 99 = some [(0, 1), (1, 1), (2, 1)] := by kernel_rfl
attribute [simp] sz_99 agg_99 zero_99 bytes_99 eqf_99 ng_99 field_99x0 field_99x1 field_99x2 places_99
theorem sz_100 : szOf Tryz.prog 100 = some 1 := by kernel_rfl
theorem agg_100 : aggOf Tryz.prog 100 = some false := by kernel_rfl
theorem zero_100 : zeroOf Tryz.prog 100 = some [.slice none 0 0] := by kernel_rfl
theorem bytes_100 : bytesOf Tryz.prog 100 = some 24 := by kernel_rfl
theorem elem_100 : elemOf Tryz.prog 100 = some 99 := by kernel_rfl
attribute [simp] sz_100 agg_100 zero_100 bytes_100 elem_100
theorem sz_101 : szOf Tryz.prog 101 = some 2 := by kernel_rfl
theorem agg_101 : aggOf Tryz.prog 101 = some true := by kernel_rfl
theorem zero_101 : zeroOf Tryz.prog 101 = some [.string ⟨#[]⟩, .slice none 0 0] := by kernel_rfl
theorem bytes_101 : bytesOf Tryz.prog 101 = some 40 := by kernel_rfl
theorem field_101x0 : fieldOf Tryz.prog 101 0 = some (9, 0) := by kernel_rfl
theorem field_101x1 : fieldOf Tryz.prog 101 1 = some (100, 1) := by kernel_rfl
theorem places_101 : placesOf Tryz.prog 101 = some [(0, 1), (1, 1)] := by kernel_rfl
attribute [simp] sz_101 agg_101 zero_101 bytes_101 field_101x0 field_101x1 places_101
theorem sz_102 : szOf Tryz.prog 102 = some 2 := by kernel_rfl
theorem agg_102 : aggOf Tryz.prog 102 = some true := by kernel_rfl
theorem zero_102 : zeroOf Tryz.prog 102 = some [.string ⟨#[]⟩, .slice none 0 0] := by kernel_rfl
theorem bytes_102 : bytesOf Tryz.prog 102 = some 40 := by kernel_rfl
theorem field_102x0 : fieldOf Tryz.prog 102 0 = some (9, 0) := by kernel_rfl
theorem field_102x1 : fieldOf Tryz.prog 102 1 = some (100, 1) := by kernel_rfl
theorem places_102 : placesOf Tryz.prog 102 = some [(0, 1), (1, 1)] := by kernel_rfl
attribute [simp] sz_102 agg_102 zero_102 bytes_102 field_102x0 field_102x1 places_102
theorem sz_103 : szOf Tryz.prog 103 = some 2 := by kernel_rfl
theorem agg_103 : aggOf Tryz.prog 103 = some true := by kernel_rfl
theorem zero_103 : zeroOf Tryz.prog 103 = some [.int .i64 0, .slice none 0 0] := by kernel_rfl
theorem bytes_103 : bytesOf Tryz.prog 103 = some 32 := by kernel_rfl
theorem field_103x0 : fieldOf Tryz.prog 103 0 = some (3, 0) := by kernel_rfl
theorem field_103x1 : fieldOf Tryz.prog 103 1 = some (22, 1) := by kernel_rfl
theorem places_103 : placesOf Tryz.prog 103 = some [(0, 1), (1, 1)] := by kernel_rfl
attribute [simp] sz_103 agg_103 zero_103 bytes_103 field_103x0 field_103x1 places_103
theorem sz_104 : szOf Tryz.prog 104 = some 2 := by kernel_rfl
theorem agg_104 : aggOf Tryz.prog 104 = some true := by kernel_rfl
theorem zero_104 : zeroOf Tryz.prog 104 = some [.int .i64 0, .slice none 0 0] := by kernel_rfl
theorem bytes_104 : bytesOf Tryz.prog 104 = some 32 := by kernel_rfl
theorem field_104x0 : fieldOf Tryz.prog 104 0 = some (3, 0) := by kernel_rfl
theorem field_104x1 : fieldOf Tryz.prog 104 1 = some (22, 1) := by kernel_rfl
theorem places_104 : placesOf Tryz.prog 104 = some [(0, 1), (1, 1)] := by kernel_rfl
attribute [simp] sz_104 agg_104 zero_104 bytes_104 field_104x0 field_104x1 places_104
theorem sz_105 : szOf Tryz.prog 105 = some 1 := by kernel_rfl
theorem agg_105 : aggOf Tryz.prog 105 = some false := by kernel_rfl
theorem zero_105 : zeroOf Tryz.prog 105 = some [.nilFunc] := by kernel_rfl
theorem bytes_105 : bytesOf Tryz.prog 105 = some 8 := by kernel_rfl
attribute [simp] sz_105 agg_105 zero_105 bytes_105
theorem sz_106 : szOf Tryz.prog 106 = some 1 := by kernel_rfl
theorem agg_106 : aggOf Tryz.prog 106 = some false := by kernel_rfl
theorem zero_106 : zeroOf Tryz.prog 106 = some [.nilFunc] := by kernel_rfl
theorem bytes_106 : bytesOf Tryz.prog 106 = some 8 := by kernel_rfl
attribute [simp] sz_106 agg_106 zero_106 bytes_106
theorem sz_107 : szOf Tryz.prog 107 = some 1 := by kernel_rfl
theorem agg_107 : aggOf Tryz.prog 107 = some false := by kernel_rfl
theorem zero_107 : zeroOf Tryz.prog 107 = some [.nilFunc] := by kernel_rfl
theorem bytes_107 : bytesOf Tryz.prog 107 = some 8 := by kernel_rfl
attribute [simp] sz_107 agg_107 zero_107 bytes_107
theorem sz_108 : szOf Tryz.prog 108 = some 1 := by kernel_rfl
theorem agg_108 : aggOf Tryz.prog 108 = some false := by kernel_rfl
theorem zero_108 : zeroOf Tryz.prog 108 = some [.nilFunc] := by kernel_rfl
theorem bytes_108 : bytesOf Tryz.prog 108 = some 8 := by kernel_rfl
attribute [simp] sz_108 agg_108 zero_108 bytes_108
theorem sz_109 : szOf Tryz.prog 109 = some 1 := by kernel_rfl
theorem agg_109 : aggOf Tryz.prog 109 = some false := by kernel_rfl
theorem zero_109 : zeroOf Tryz.prog 109 = some [.slice none 0 0] := by kernel_rfl
theorem bytes_109 : bytesOf Tryz.prog 109 = some 24 := by kernel_rfl
theorem elem_109 : elemOf Tryz.prog 109 = some 22 := by kernel_rfl
attribute [simp] sz_109 agg_109 zero_109 bytes_109 elem_109
theorem sz_110 : szOf Tryz.prog 110 = some 1 := by kernel_rfl
theorem agg_110 : aggOf Tryz.prog 110 = some false := by kernel_rfl
theorem zero_110 : zeroOf Tryz.prog 110 = some [.nilFunc] := by kernel_rfl
theorem bytes_110 : bytesOf Tryz.prog 110 = some 8 := by kernel_rfl
attribute [simp] sz_110 agg_110 zero_110 bytes_110
theorem sz_111 : szOf Tryz.prog 111 = some 1 := by kernel_rfl
theorem agg_111 : aggOf Tryz.prog 111 = some false := by kernel_rfl
theorem zero_111 : zeroOf Tryz.prog 111 = some [.nilFunc] := by kernel_rfl
theorem bytes_111 : bytesOf Tryz.prog 111 = some 8 := by kernel_rfl
attribute [simp] sz_111 agg_111 zero_111 bytes_111
theorem sz_112 : szOf Tryz.prog 112 = some 1 := by kernel_rfl
theorem agg_112 : aggOf Tryz.prog 112 = some false := by kernel_rfl
theorem zero_112 : zeroOf Tryz.prog 112 = some [.nilFunc] := by kernel_rfl
theorem bytes_112 : bytesOf Tryz.prog 112 = some 8 := by kernel_rfl
attribute [simp] sz_112 agg_112 zero_112 bytes_112
theorem sz_113 : szOf Tryz.prog 113 = some 1 := by kernel_rfl
theorem agg_113 : aggOf Tryz.prog 113 = some false := by kernel_rfl
theorem zero_113 : zeroOf Tryz.prog 113 = some [.nilFunc] := by kernel_rfl
theorem bytes_113 : bytesOf Tryz.prog 113 = some 8 := by kernel_rfl
attribute [simp] sz_113 agg_113 zero_113 bytes_113
theorem sz_114 : szOf Tryz.prog 114 = some 1 := by kernel_rfl
theorem agg_114 : aggOf Tryz.prog 114 = some false := by kernel_rfl
theorem zero_114 : zeroOf Tryz.prog 114 = some [.nilFunc] := by kernel_rfl
theorem bytes_114 : bytesOf Tryz.prog 114 = some 8 := by kernel_rfl
attribute [simp] sz_114 agg_114 zero_114 bytes_114
theorem sz_116 : szOf Tryz.prog 116 = some 1 := by kernel_rfl
theorem agg_116 : aggOf Tryz.prog 116 = some false := by kernel_rfl
theorem zero_116 : zeroOf Tryz.prog 116 = some [.nilFunc] := by kernel_rfl
theorem bytes_116 : bytesOf Tryz.prog 116 = some 8 := by kernel_rfl
attribute [simp] sz_116 agg_116 zero_116 bytes_116
theorem sz_117 : szOf Tryz.prog 117 = some 1 := by kernel_rfl
theorem agg_117 : aggOf Tryz.prog 117 = some false := by kernel_rfl
theorem zero_117 : zeroOf Tryz.prog 117 = some [.nilFunc] := by kernel_rfl
theorem bytes_117 : bytesOf Tryz.prog 117 = some 8 := by kernel_rfl
attribute [simp] sz_117 agg_117 zero_117 bytes_117
theorem sz_118 : szOf Tryz.prog 118 = some 1 := by kernel_rfl
theorem agg_118 : aggOf Tryz.prog 118 = some false := by kernel_rfl
theorem zero_118 : zeroOf Tryz.prog 118 = some [.nilFunc] := by kernel_rfl
theorem bytes_118 : bytesOf Tryz.prog 118 = some 8 := by kernel_rfl
attribute [simp] sz_118 agg_118 zero_118 bytes_118
theorem sz_119 : szOf Tryz.prog 119 = some 1 := by kernel_rfl
theorem agg_119 : aggOf Tryz.prog 119 = some false := by kernel_rfl
theorem zero_119 : zeroOf Tryz.prog 119 = some [.nilFunc] := by kernel_rfl
theorem bytes_119 : bytesOf Tryz.prog 119 = some 8 := by kernel_rfl
attribute [simp] sz_119 agg_119 zero_119 bytes_119
theorem sz_120 : szOf Tryz.prog 120 = some 1 := by kernel_rfl
theorem agg_120 : aggOf Tryz.prog 120 = some false := by kernel_rfl
theorem zero_120 : zeroOf Tryz.prog 120 = some [.nilFunc] := by kernel_rfl
theorem bytes_120 : bytesOf Tryz.prog 120 = some 8 := by kernel_rfl
attribute [simp] sz_120 agg_120 zero_120 bytes_120
theorem sz_121 : szOf Tryz.prog 121 = some 1 := by kernel_rfl
theorem agg_121 : aggOf Tryz.prog 121 = some false := by kernel_rfl
theorem zero_121 : zeroOf Tryz.prog 121 = some [.slice none 0 0] := by kernel_rfl
theorem bytes_121 : bytesOf Tryz.prog 121 = some 24 := by kernel_rfl
theorem elem_121 : elemOf Tryz.prog 121 = some 124 := by kernel_rfl
attribute [simp] sz_121 agg_121 zero_121 bytes_121 elem_121
theorem sz_122 : szOf Tryz.prog 122 = some 1 := by kernel_rfl
theorem agg_122 : aggOf Tryz.prog 122 = some false := by kernel_rfl
theorem zero_122 : zeroOf Tryz.prog 122 = some [.nilFunc] := by kernel_rfl
theorem bytes_122 : bytesOf Tryz.prog 122 = some 8 := by kernel_rfl
attribute [simp] sz_122 agg_122 zero_122 bytes_122
theorem sz_123 : szOf Tryz.prog 123 = some 4 := by kernel_rfl
theorem agg_123 : aggOf Tryz.prog 123 = some true := by kernel_rfl
theorem zero_123 : zeroOf Tryz.prog 123 = some [.int .i64 0, .int .i64 0, .int .i64 0, .slice none 0 0] := by kernel_rfl
theorem bytes_123 : bytesOf Tryz.prog 123 = some 48 := by kernel_rfl
theorem field_123x0 : fieldOf Tryz.prog 123 0 = some (3, 0) := by kernel_rfl
theorem field_123x1 : fieldOf Tryz.prog 123 1 = some (48, 1) := by kernel_rfl
theorem places_123 : placesOf Tryz.prog 123 = some [(0, 1), (1, 3)] := by kernel_rfl
attribute [simp] sz_123 agg_123 zero_123 bytes_123 field_123x0 field_123x1 places_123
theorem sz_124 : szOf Tryz.prog 124 = some 4 := by kernel_rfl
theorem agg_124 : aggOf Tryz.prog 124 = some true := by kernel_rfl
theorem zero_124 : zeroOf Tryz.prog 124 = some [.int .i64 0, .int .i64 0, .int .i64 0, .slice none 0 0] := by kernel_rfl
theorem bytes_124 : bytesOf Tryz.prog 124 = some 48 := by kernel_rfl
theorem field_124x0 : fieldOf Tryz.prog 124 0 = some (3, 0) := by kernel_rfl
theorem field_124x1 : fieldOf Tryz.prog 124 1 = some (48, 1) := by kernel_rfl
theorem places_124 : placesOf Tryz.prog 124 = some [(0, 1), (1, 3)] := by kernel_rfl
attribute [simp] sz_124 agg_124 zero_124 bytes_124 field_124x0 field_124x1 places_124
theorem sz_125 : szOf Tryz.prog 125 = some 1 := by kernel_rfl
theorem agg_125 : aggOf Tryz.prog 125 = some false := by kernel_rfl
theorem zero_125 : zeroOf Tryz.prog 125 = some [.nilFunc] := by kernel_rfl
theorem bytes_125 : bytesOf Tryz.prog 125 = some 8 := by kernel_rfl
attribute [simp] sz_125 agg_125 zero_125 bytes_125
theorem sz_126 : szOf Tryz.prog 126 = some 1 := by kernel_rfl
theorem agg_126 : aggOf Tryz.prog 126 = some false := by kernel_rfl
theorem zero_126 : zeroOf Tryz.prog 126 = some [.nilFunc] := by kernel_rfl
theorem bytes_126 : bytesOf Tryz.prog 126 = some 8 := by kernel_rfl
attribute [simp] sz_126 agg_126 zero_126 bytes_126
theorem sz_127 : szOf Tryz.prog 127 = some 1 := by kernel_rfl
theorem agg_127 : aggOf Tryz.prog 127 = some false := by kernel_rfl
theorem zero_127 : zeroOf Tryz.prog 127 = some [.nilFunc] := by kernel_rfl
theorem bytes_127 : bytesOf Tryz.prog 127 = some 8 := by kernel_rfl
attribute [simp] sz_127 agg_127 zero_127 bytes_127
theorem sz_128 : szOf Tryz.prog 128 = some 1 := by kernel_rfl
theorem agg_128 : aggOf Tryz.prog 128 = some false := by kernel_rfl
theorem zero_128 : zeroOf Tryz.prog 128 = some [.nilFunc] := by kernel_rfl
theorem bytes_128 : bytesOf Tryz.prog 128 = some 8 := by kernel_rfl
attribute [simp] sz_128 agg_128 zero_128 bytes_128
theorem sz_129 : szOf Tryz.prog 129 = some 1 := by kernel_rfl
theorem agg_129 : aggOf Tryz.prog 129 = some false := by kernel_rfl
theorem zero_129 : zeroOf Tryz.prog 129 = some [.nilFunc] := by kernel_rfl
theorem bytes_129 : bytesOf Tryz.prog 129 = some 8 := by kernel_rfl
attribute [simp] sz_129 agg_129 zero_129 bytes_129
theorem sz_130 : szOf Tryz.prog 130 = some 1 := by kernel_rfl
theorem agg_130 : aggOf Tryz.prog 130 = some false := by kernel_rfl
theorem zero_130 : zeroOf Tryz.prog 130 = some [.nilFunc] := by kernel_rfl
theorem bytes_130 : bytesOf Tryz.prog 130 = some 8 := by kernel_rfl
attribute [simp] sz_130 agg_130 zero_130 bytes_130
theorem sz_131 : szOf Tryz.prog 131 = some 1 := by kernel_rfl
theorem agg_131 : aggOf Tryz.prog 131 = some false := by kernel_rfl
theorem zero_131 : zeroOf Tryz.prog 131 = some [.nilFunc] := by kernel_rfl
theorem bytes_131 : bytesOf Tryz.prog 131 = some 8 := by kernel_rfl
attribute [simp] sz_131 agg_131 zero_131 bytes_131
theorem sz_132 : szOf Tryz.prog 132 = some 1 := by kernel_rfl
theorem agg_132 : aggOf Tryz.prog 132 = some false := by kernel_rfl
theorem zero_132 : zeroOf Tryz.prog 132 = some [.nilFunc] := by kernel_rfl
theorem bytes_132 : bytesOf Tryz.prog 132 = some 8 := by kernel_rfl
attribute [simp] sz_132 agg_132 zero_132 bytes_132
theorem sz_133 : szOf Tryz.prog 133 = some 1 := by kernel_rfl
theorem agg_133 : aggOf Tryz.prog 133 = some false := by kernel_rfl
theorem zero_133 : zeroOf Tryz.prog 133 = some [.nilFunc] := by kernel_rfl
theorem bytes_133 : bytesOf Tryz.prog 133 = some 8 := by kernel_rfl
attribute [simp] sz_133 agg_133 zero_133 bytes_133
theorem sz_134 : szOf Tryz.prog 134 = some 1 := by kernel_rfl
theorem agg_134 : aggOf Tryz.prog 134 = some false := by kernel_rfl
theorem zero_134 : zeroOf Tryz.prog 134 = some [.nilFunc] := by kernel_rfl
theorem bytes_134 : bytesOf Tryz.prog 134 = some 8 := by kernel_rfl
attribute [simp] sz_134 agg_134 zero_134 bytes_134
theorem sz_135 : szOf Tryz.prog 135 = some 1 := by kernel_rfl
theorem agg_135 : aggOf Tryz.prog 135 = some false := by kernel_rfl
theorem zero_135 : zeroOf Tryz.prog 135 = some [.slice none 0 0] := by kernel_rfl
theorem bytes_135 : bytesOf Tryz.prog 135 = some 24 := by kernel_rfl
theorem elem_135 : elemOf Tryz.prog 135 = some 9 := by kernel_rfl
attribute [simp] sz_135 agg_135 zero_135 bytes_135 elem_135
theorem sz_136 : szOf Tryz.prog 136 = some 1 := by kernel_rfl
theorem agg_136 : aggOf Tryz.prog 136 = some false := by kernel_rfl
theorem zero_136 : zeroOf Tryz.prog 136 = some [.nilFunc] := by kernel_rfl
theorem bytes_136 : bytesOf Tryz.prog 136 = some 8 := by kernel_rfl
attribute [simp] sz_136 agg_136 zero_136 bytes_136
theorem sz_137 : szOf Tryz.prog 137 = some 1 := by kernel_rfl
theorem agg_137 : aggOf Tryz.prog 137 = some false := by kernel_rfl
theorem zero_137 : zeroOf Tryz.prog 137 = some [.nilFunc] := by kernel_rfl
theorem bytes_137 : bytesOf Tryz.prog 137 = some 8 := by kernel_rfl
attribute [simp] sz_137 agg_137 zero_137 bytes_137
theorem sz_138 : szOf Tryz.prog 138 = some 1 := by kernel_rfl
theorem agg_138 : aggOf Tryz.prog 138 = some false := by kernel_rfl
theorem zero_138 : zeroOf Tryz.prog 138 = some [.nilFunc] := by kernel_rfl
theorem bytes_138 : bytesOf Tryz.prog 138 = some 8 := by kernel_rfl
attribute [simp] sz_138 agg_138 zero_138 bytes_138
theorem sz_139 : szOf Tryz.prog 139 = some 1 := by kernel_rfl
theorem agg_139 : aggOf Tryz.prog 139 = some false := by kernel_rfl
theorem zero_139 : zeroOf Tryz.prog 139 = some [.nilFunc] := by kernel_rfl
theorem bytes_139 : bytesOf Tryz.prog 139 = some 8 := by kernel_rfl
attribute [simp] sz_139 agg_139 zero_139 bytes_139
theorem sz_140 : szOf Tryz.prog 140 = some 1 := by kernel_rfl
theorem agg_140 : aggOf Tryz.prog 140 = some false := by kernel_rfl
theorem zero_140 : zeroOf Tryz.prog 140 = some [.nilFunc] := by kernel_rfl
theorem bytes_140 : bytesOf Tryz.prog 140 = some 8 := by kernel_rfl
attribute [simp] sz_140 agg_140 zero_140 bytes_140
theorem sz_141 : szOf Tryz.prog 141 = some 1 := by kernel_rfl
theorem agg_141 : aggOf Tryz.prog 141 = some false := by kernel_rfl
theorem zero_141 : zeroOf Tryz.prog 141 = some [.nilFunc] := by kernel_rfl
theorem bytes_141 : bytesOf Tryz.prog 141 = some 8 := by kernel_rfl
attribute [simp] sz_141 agg_141 zero_141 bytes_141
theorem sz_142 : szOf Tryz.prog 142 = some 1 := by kernel_rfl
theorem agg_142 : aggOf Tryz.prog 142 = some false := by kernel_rfl
theorem zero_142 : zeroOf Tryz.prog 142 = some [.nilFunc] := by kernel_rfl
theorem bytes_142 : bytesOf Tryz.prog 142 = some 8 := by kernel_rfl
attribute [simp] sz_142 agg_142 zero_142 bytes_142
theorem sz_143 : szOf Tryz.prog 143 = some 1 := by kernel_rfl
theorem agg_143 : aggOf Tryz.prog 143 = some false := by kernel_rfl
theorem zero_143 : zeroOf Tryz.prog 143 = some [.nilFunc] := by kernel_rfl
theorem bytes_143 : bytesOf Tryz.prog 143 = some 8 := by kernel_rfl
attribute [simp] sz_143 agg_143 zero_143 bytes_143
theorem sz_144 : szOf Tryz.prog 144 = some 1 := by kernel_rfl
theorem agg_144 : aggOf Tryz.prog 144 = some false := by kernel_rfl
theorem zero_144 : zeroOf Tryz.prog 144 = some [.nilFunc] := by kernel_rfl
theorem bytes_144 : bytesOf Tryz.prog 144 = some 8 := by kernel_rfl
attribute [simp] sz_144 agg_144 zero_144 bytes_144
theorem sz_145 : szOf Tryz.prog 145 = some 1 := by kernel_rfl
theorem agg_145 : aggOf Tryz.prog 145 = some false := by kernel_rfl
theorem zero_145 : zeroOf Tryz.prog 145 = some [.nilFunc] := by kernel_rfl
theorem bytes_145 : bytesOf Tryz.prog 145 = some 8 := by kernel_rfl
attribute [simp] sz_145 agg_145 zero_145 bytes_145
theorem sz_146 : szOf Tryz.prog 146 = some 1 := by kernel_rfl
theorem agg_146 : aggOf Tryz.prog 146 = some false := by kernel_rfl
theorem zero_146 : zeroOf Tryz.prog 146 = some [.nilFunc] := by kernel_rfl
theorem bytes_146 : bytesOf Tryz.prog 146 = some 8 := by kernel_rfl
attribute [simp] sz_146 agg_146 zero_146 bytes_146
theorem sz_147 : szOf Tryz.prog 147 = some 1 := by kernel_rfl
theorem agg_147 : aggOf Tryz.prog 147 = some false := by kernel_rfl
theorem zero_147 : zeroOf Tryz.prog 147 = some [.nilFunc] := by kernel_rfl
theorem bytes_147 : bytesOf Tryz.prog 147 = some 8 := by kernel_rfl
attribute [simp] sz_147 agg_147 zero_147 bytes_147
theorem sz_149 : szOf Tryz.prog 149 = some 1 := by kernel_rfl
theorem agg_149 : aggOf Tryz.prog 149 = some false := by kernel_rfl
theorem zero_149 : zeroOf Tryz.prog 149 = some [.nilFunc] := by kernel_rfl
theorem bytes_149 : bytesOf Tryz.prog 149 = some 8 := by kernel_rfl
attribute [simp] sz_149 agg_149 zero_149 bytes_149
theorem sz_150 : szOf Tryz.prog 150 = some 1 := by kernel_rfl
theorem agg_150 : aggOf Tryz.prog 150 = some false := by kernel_rfl
theorem zero_150 : zeroOf Tryz.prog 150 = some [.nilFunc] := by kernel_rfl
theorem bytes_150 : bytesOf Tryz.prog 150 = some 8 := by kernel_rfl
attribute [simp] sz_150 agg_150 zero_150 bytes_150
theorem sz_151 : szOf Tryz.prog 151 = some 1 := by kernel_rfl
theorem agg_151 : aggOf Tryz.prog 151 = some false := by kernel_rfl
theorem zero_151 : zeroOf Tryz.prog 151 = some [.nilFunc] := by kernel_rfl
theorem bytes_151 : bytesOf Tryz.prog 151 = some 8 := by kernel_rfl
attribute [simp] sz_151 agg_151 zero_151 bytes_151
theorem sz_152 : szOf Tryz.prog 152 = some 1 := by kernel_rfl
theorem agg_152 : aggOf Tryz.prog 152 = some false := by kernel_rfl
theorem zero_152 : zeroOf Tryz.prog 152 = some [.slice none 0 0] := by kernel_rfl
theorem bytes_152 : bytesOf Tryz.prog 152 = some 24 := by kernel_rfl
theorem elem_152 : elemOf Tryz.prog 152 = some 80 := by kernel_rfl
attribute [simp] sz_152 agg_152 zero_152 bytes_152 elem_152
theorem sz_153 : szOf Tryz.prog 153 = some 1 := by kernel_rfl
theorem agg_153 : aggOf Tryz.prog 153 = some false := by kernel_rfl
theorem zero_153 : zeroOf Tryz.prog 153 = some [.nilFunc] := by kernel_rfl
theorem bytes_153 : bytesOf Tryz.prog 153 = some 8 := by kernel_rfl
attribute [simp] sz_153 agg_153 zero_153 bytes_153
theorem sz_154 : szOf Tryz.prog 154 = some 1 := by kernel_rfl
theorem agg_154 : aggOf Tryz.prog 154 = some false := by kernel_rfl
theorem zero_154 : zeroOf Tryz.prog 154 = some [.int .u64 0] := by kernel_rfl
theorem bytes_154 : bytesOf Tryz.prog 154 = some 8 := by kernel_rfl
theorem int_154 : intOfT Tryz.prog 154 = some .u64 := by kernel_rfl
theorem und_154 : (Tryz.prog.underlying 154).isSome = true := by kernel_rfl
attribute [simp] sz_154 agg_154 zero_154 bytes_154 int_154 und_154
theorem sz_155 : szOf Tryz.prog 155 = some 1 := by kernel_rfl
theorem agg_155 : aggOf Tryz.prog 155 = some false := by kernel_rfl
theorem zero_155 : zeroOf Tryz.prog 155 = some [.nilFunc] := by kernel_rfl
theorem bytes_155 : bytesOf Tryz.prog 155 = some 8 := by kernel_rfl
attribute [simp] sz_155 agg_155 zero_155 bytes_155
theorem sz_156 : szOf Tryz.prog 156 = some 1 := by kernel_rfl
theorem agg_156 : aggOf Tryz.prog 156 = some false := by kernel_rfl
theorem zero_156 : zeroOf Tryz.prog 156 = some [.nilFunc] := by kernel_rfl
theorem bytes_156 : bytesOf Tryz.prog 156 = some 8 := by kernel_rfl
attribute [simp] sz_156 agg_156 zero_156 bytes_156
theorem sz_158 : szOf Tryz.prog 158 = some 1 := by kernel_rfl
theorem agg_158 : aggOf Tryz.prog 158 = some false := by kernel_rfl
theorem zero_158 : zeroOf Tryz.prog 158 = some [.nilFunc] := by kernel_rfl
theorem bytes_158 : bytesOf Tryz.prog 158 = some 8 := by kernel_rfl
attribute [simp] sz_158 agg_158 zero_158 bytes_158
theorem sz_159 : szOf Tryz.prog 159 = some 1 := by kernel_rfl
theorem agg_159 : aggOf Tryz.prog 159 = some false := by kernel_rfl
theorem zero_159 : zeroOf Tryz.prog 159 = some [.nilFunc] := by kernel_rfl
theorem bytes_159 : bytesOf Tryz.prog 159 = some 8 := by kernel_rfl
attribute [simp] sz_159 agg_159 zero_159 bytes_159
theorem sz_160 : szOf Tryz.prog 160 = some 1 := by kernel_rfl
theorem agg_160 : aggOf Tryz.prog 160 = some false := by kernel_rfl
theorem zero_160 : zeroOf Tryz.prog 160 = some [.nilFunc] := by kernel_rfl
theorem bytes_160 : bytesOf Tryz.prog 160 = some 8 := by kernel_rfl
attribute [simp] sz_160 agg_160 zero_160 bytes_160
theorem sz_161 : szOf Tryz.prog 161 = some 1 := by kernel_rfl
theorem agg_161 : aggOf Tryz.prog 161 = some false := by kernel_rfl
theorem zero_161 : zeroOf Tryz.prog 161 = some [.nilFunc] := by kernel_rfl
theorem bytes_161 : bytesOf Tryz.prog 161 = some 8 := by kernel_rfl
attribute [simp] sz_161 agg_161 zero_161 bytes_161
theorem sz_163 : szOf Tryz.prog 163 = some 1 := by kernel_rfl
theorem agg_163 : aggOf Tryz.prog 163 = some false := by kernel_rfl
theorem zero_163 : zeroOf Tryz.prog 163 = some [.nilFunc] := by kernel_rfl
theorem bytes_163 : bytesOf Tryz.prog 163 = some 8 := by kernel_rfl
attribute [simp] sz_163 agg_163 zero_163 bytes_163
theorem sz_164 : szOf Tryz.prog 164 = some 1 := by kernel_rfl
theorem agg_164 : aggOf Tryz.prog 164 = some false := by kernel_rfl
theorem zero_164 : zeroOf Tryz.prog 164 = some [.nilFunc] := by kernel_rfl
theorem bytes_164 : bytesOf Tryz.prog 164 = some 8 := by kernel_rfl
attribute [simp] sz_164 agg_164 zero_164 bytes_164
theorem sz_165 : szOf Tryz.prog 165 = some 1 := by kernel_rfl
theorem agg_165 : aggOf Tryz.prog 165 = some false := by kernel_rfl
theorem zero_165 : zeroOf Tryz.prog 165 = some [.int .i64 0] := by kernel_rfl
theorem bytes_165 : bytesOf Tryz.prog 165 = some 8 := by kernel_rfl
theorem int_165 : intOfT Tryz.prog 165 = some .i64 := by kernel_rfl
theorem und_165 : (Tryz.prog.underlying 165).isSome = true := by kernel_rfl
attribute [simp] sz_165 agg_165 zero_165 bytes_165 int_165 und_165
theorem sz_167 : szOf Tryz.prog 167 = some 1 := by kernel_rfl
theorem agg_167 : aggOf Tryz.prog 167 = some false := by kernel_rfl
theorem zero_167 : zeroOf Tryz.prog 167 = some [.nilFunc] := by kernel_rfl
theorem bytes_167 : bytesOf Tryz.prog 167 = some 8 := by kernel_rfl
attribute [simp] sz_167 agg_167 zero_167 bytes_167
theorem sz_168 : szOf Tryz.prog 168 = some 1 := by kernel_rfl
theorem agg_168 : aggOf Tryz.prog 168 = some false := by kernel_rfl
theorem zero_168 : zeroOf Tryz.prog 168 = some [.nilFunc] := by kernel_rfl
theorem bytes_168 : bytesOf Tryz.prog 168 = some 8 := by kernel_rfl
attribute [simp] sz_168 agg_168 zero_168 bytes_168
theorem sz_169 : szOf Tryz.prog 169 = some 1 := by kernel_rfl
theorem agg_169 : aggOf Tryz.prog 169 = some false := by kernel_rfl
theorem zero_169 : zeroOf Tryz.prog 169 = some [.nilFunc] := by kernel_rfl
theorem bytes_169 : bytesOf Tryz.prog 169 = some 8 := by kernel_rfl
attribute [simp] sz_169 agg_169 zero_169 bytes_169
theorem sz_171 : szOf Tryz.prog 171 = some 1 := by kernel_rfl
theorem agg_171 : aggOf Tryz.prog 171 = some false := by kernel_rfl
theorem zero_171 : zeroOf Tryz.prog 171 = some [.nilFunc] := by kernel_rfl
theorem bytes_171 : bytesOf Tryz.prog 171 = some 8 := by kernel_rfl
attribute [simp] sz_171 agg_171 zero_171 bytes_171
theorem sz_172 : szOf Tryz.prog 172 = some 1 := by kernel_rfl
theorem agg_172 : aggOf Tryz.prog 172 = some false := by kernel_rfl
theorem zero_172 : zeroOf Tryz.prog 172 = some [.nilFunc] := by kernel_rfl
theorem bytes_172 : bytesOf Tryz.prog 172 = some 8 := by kernel_rfl
attribute [simp] sz_172 agg_172 zero_172 bytes_172
theorem sz_173 : szOf Tryz.prog 173 = some 1 := by kernel_rfl
theorem agg_173 : aggOf Tryz.prog 173 = some false := by kernel_rfl
theorem zero_173 : zeroOf Tryz.prog 173 = some [.int .u32 0] := by kernel_rfl
theorem bytes_173 : bytesOf Tryz.prog 173 = some 4 := by kernel_rfl
theorem int_173 : intOfT Tryz.prog 173 = some .u32 := by kernel_rfl
theorem und_173 : (Tryz.prog.underlying 173).isSome = true := by kernel_rfl
attribute [simp] sz_173 agg_173 zero_173 bytes_173 int_173 und_173
theorem sz_174 : szOf Tryz.prog 174 = some 1 := by kernel_rfl
theorem agg_174 : aggOf Tryz.prog 174 = some false := by kernel_rfl
theorem zero_174 : zeroOf Tryz.prog 174 = some [.nilFunc] := by kernel_rfl
theorem bytes_174 : bytesOf Tryz.prog 174 = some 8 := by kernel_rfl
attribute [simp] sz_174 agg_174 zero_174 bytes_174
theorem sz_175 : szOf Tryz.prog 175 = some 1 := by kernel_rfl
theorem agg_175 : aggOf Tryz.prog 175 = some false := by kernel_rfl
theorem zero_175 : zeroOf Tryz.prog 175 = some [.nilFunc] := by kernel_rfl
theorem bytes_175 : bytesOf Tryz.prog 175 = some 8 := by kernel_rfl
attribute [simp] sz_175 agg_175 zero_175 bytes_175
theorem sz_177 : szOf Tryz.prog 177 = some 1 := by kernel_rfl
theorem agg_177 : aggOf Tryz.prog 177 = some false := by kernel_rfl
theorem zero_177 : zeroOf Tryz.prog 177 = some [.nilFunc] := by kernel_rfl
theorem bytes_177 : bytesOf Tryz.prog 177 = some 8 := by kernel_rfl
attribute [simp] sz_177 agg_177 zero_177 bytes_177
theorem sz_178 : szOf Tryz.prog 178 = some 1 := by kernel_rfl
theorem agg_178 : aggOf Tryz.prog 178 = some false := by kernel_rfl
theorem zero_178 : zeroOf Tryz.prog 178 = some [.nilFunc] := by kernel_rfl
theorem bytes_178 : bytesOf Tryz.prog 178 = some 8 := by kernel_rfl
attribute [simp] sz_178 agg_178 zero_178 bytes_178
theorem sz_179 : szOf Tryz.prog 179 = some 1 := by kernel_rfl
theorem agg_179 : aggOf Tryz.prog 179 = some false := by kernel_rfl
theorem zero_179 : zeroOf Tryz.prog 179 = some [.int .u64 0] := by kernel_rfl
theorem bytes_179 : bytesOf Tryz.prog 179 = some 8 := by kernel_rfl
theorem int_179 : intOfT Tryz.prog 179 = some .u64 := by kernel_rfl
theorem und_179 : (Tryz.prog.underlying 179).isSome = true := by kernel_rfl
attribute [simp] sz_179 agg_179 zero_179 bytes_179 int_179 und_179
theorem sz_180 : szOf Tryz.prog 180 = some 1 := by kernel_rfl
theorem agg_180 : aggOf Tryz.prog 180 = some false := by kernel_rfl
theorem zero_180 : zeroOf Tryz.prog 180 = some [.nilFunc] := by kernel_rfl
theorem bytes_180 : bytesOf Tryz.prog 180 = some 8 := by kernel_rfl
attribute [simp] sz_180 agg_180 zero_180 bytes_180
theorem sz_181 : szOf Tryz.prog 181 = some 1 := by kernel_rfl
theorem agg_181 : aggOf Tryz.prog 181 = some false := by kernel_rfl
theorem zero_181 : zeroOf Tryz.prog 181 = some [.nilFunc] := by kernel_rfl
theorem bytes_181 : bytesOf Tryz.prog 181 = some 8 := by kernel_rfl
attribute [simp] sz_181 agg_181 zero_181 bytes_181
theorem sz_182 : szOf Tryz.prog 182 = some 1 := by kernel_rfl
theorem agg_182 : aggOf Tryz.prog 182 = some false := by kernel_rfl
theorem zero_182 : zeroOf Tryz.prog 182 = some [.nilFunc] := by kernel_rfl
theorem bytes_182 : bytesOf Tryz.prog 182 = some 8 := by kernel_rfl
attribute [simp] sz_182 agg_182 zero_182 bytes_182
theorem sz_183 : szOf Tryz.prog 183 = some 1 := by kernel_rfl
theorem agg_183 : aggOf Tryz.prog 183 = some false := by kernel_rfl
theorem zero_183 : zeroOf Tryz.prog 183 = some [.pointer none] := by kernel_rfl
theorem bytes_183 : bytesOf Tryz.prog 183 = some 8 := by kernel_rfl
theorem ptr_183 : isPtr Tryz.prog 183 = true := by kernel_rfl
attribute [simp] sz_183 agg_183 zero_183 bytes_183 ptr_183
theorem sz_184 : szOf Tryz.prog 184 = some 1 := by kernel_rfl
theorem agg_184 : aggOf Tryz.prog 184 = some false := by kernel_rfl
theorem zero_184 : zeroOf Tryz.prog 184 = some [.nilFunc] := by kernel_rfl
theorem bytes_184 : bytesOf Tryz.prog 184 = some 8 := by kernel_rfl
attribute [simp] sz_184 agg_184 zero_184 bytes_184
theorem sz_185 : szOf Tryz.prog 185 = some 1 := by kernel_rfl
theorem agg_185 : aggOf Tryz.prog 185 = some false := by kernel_rfl
attribute [simp] sz_185 agg_185
theorem sz_186 : szOf Tryz.prog 186 = some 1 := by kernel_rfl
theorem agg_186 : aggOf Tryz.prog 186 = some false := by kernel_rfl
attribute [simp] sz_186 agg_186
theorem sz_187 : szOf Tryz.prog 187 = some 1 := by kernel_rfl
theorem agg_187 : aggOf Tryz.prog 187 = some false := by kernel_rfl
theorem zero_187 : zeroOf Tryz.prog 187 = some [.pointer none] := by kernel_rfl
theorem bytes_187 : bytesOf Tryz.prog 187 = some 8 := by kernel_rfl
theorem ptr_187 : isPtr Tryz.prog 187 = true := by kernel_rfl
attribute [simp] sz_187 agg_187 zero_187 bytes_187 ptr_187
theorem sz_189 : szOf Tryz.prog 189 = some 1 := by kernel_rfl
theorem agg_189 : aggOf Tryz.prog 189 = some false := by kernel_rfl
theorem zero_189 : zeroOf Tryz.prog 189 = some [.nilFunc] := by kernel_rfl
theorem bytes_189 : bytesOf Tryz.prog 189 = some 8 := by kernel_rfl
attribute [simp] sz_189 agg_189 zero_189 bytes_189
theorem sz_190 : szOf Tryz.prog 190 = some 1 := by kernel_rfl
theorem agg_190 : aggOf Tryz.prog 190 = some false := by kernel_rfl
theorem zero_190 : zeroOf Tryz.prog 190 = some [.pointer none] := by kernel_rfl
theorem bytes_190 : bytesOf Tryz.prog 190 = some 8 := by kernel_rfl
theorem ptr_190 : isPtr Tryz.prog 190 = true := by kernel_rfl
attribute [simp] sz_190 agg_190 zero_190 bytes_190 ptr_190
theorem sz_191 : szOf Tryz.prog 191 = some 1 := by kernel_rfl
theorem agg_191 : aggOf Tryz.prog 191 = some false := by kernel_rfl
theorem zero_191 : zeroOf Tryz.prog 191 = some [.nilFunc] := by kernel_rfl
theorem bytes_191 : bytesOf Tryz.prog 191 = some 8 := by kernel_rfl
attribute [simp] sz_191 agg_191 zero_191 bytes_191
theorem sz_192 : szOf Tryz.prog 192 = some 4 := by kernel_rfl
theorem agg_192 : aggOf Tryz.prog 192 = some true := by kernel_rfl
theorem zero_192 : zeroOf Tryz.prog 192 = some [.pointer none, .pointer none, .pointer none, .string ⟨#[]⟩] := by kernel_rfl
theorem bytes_192 : bytesOf Tryz.prog 192 = some 40 := by kernel_rfl
theorem field_192x0 : fieldOf Tryz.prog 192 0 = some (17, 0) := by kernel_rfl
theorem field_192x1 : fieldOf Tryz.prog 192 1 = some (17, 1) := by kernel_rfl
theorem field_192x2 : fieldOf Tryz.prog 192 2 = some (17, 2) := by kernel_rfl
theorem field_192x3 : fieldOf Tryz.prog 192 3 = some (9, 3) := by kernel_rfl
theorem places_192 : placesOf Tryz.prog 192 = some [(0, 1), (1, 1), (2, 1), (3, 1)] := by kernel_rfl
attribute [simp] sz_192 agg_192 zero_192 bytes_192 field_192x0 field_192x1 field_192x2 field_192x3 places_192
theorem sz_193 : szOf Tryz.prog 193 = some 4 := by kernel_rfl
theorem agg_193 : aggOf Tryz.prog 193 = some true := by kernel_rfl
theorem zero_193 : zeroOf Tryz.prog 193 = some [.pointer none, .pointer none, .pointer none, .string ⟨#[]⟩] := by kernel_rfl
theorem bytes_193 : bytesOf Tryz.prog 193 = some 40 := by kernel_rfl
theorem field_193x0 : fieldOf Tryz.prog 193 0 = some (17, 0) := by kernel_rfl
theorem field_193x1 : fieldOf Tryz.prog 193 1 = some (17, 1) := by kernel_rfl
theorem field_193x2 : fieldOf Tryz.prog 193 2 = some (17, 2) := by kernel_rfl
theorem field_193x3 : fieldOf Tryz.prog 193 3 = some (9, 3) := by kernel_rfl
theorem places_193 : placesOf Tryz.prog 193 = some [(0, 1), (1, 1), (2, 1), (3, 1)] := by kernel_rfl
attribute [simp] sz_193 agg_193 zero_193 bytes_193 field_193x0 field_193x1 field_193x2 field_193x3 places_193
theorem sz_194 : szOf Tryz.prog 194 = some 0 := by kernel_rfl
theorem agg_194 : aggOf Tryz.prog 194 = some true := by kernel_rfl
theorem zero_194 : zeroOf Tryz.prog 194 = some [] := by kernel_rfl
theorem bytes_194 : bytesOf Tryz.prog 194 = some 0 := by kernel_rfl
attribute [simp] sz_194 agg_194 zero_194 bytes_194
theorem sz_195 : szOf Tryz.prog 195 = some 0 := by kernel_rfl
theorem agg_195 : aggOf Tryz.prog 195 = some true := by kernel_rfl
theorem zero_195 : zeroOf Tryz.prog 195 = some [] := by kernel_rfl
theorem bytes_195 : bytesOf Tryz.prog 195 = some 0 := by kernel_rfl
theorem field_195x0 : fieldOf Tryz.prog 195 0 = some (194, 0) := by kernel_rfl
theorem places_195 : placesOf Tryz.prog 195 = some [(0, 0)] := by kernel_rfl
attribute [simp] sz_195 agg_195 zero_195 bytes_195 field_195x0 places_195
theorem sz_196 : szOf Tryz.prog 196 = some 0 := by kernel_rfl
theorem agg_196 : aggOf Tryz.prog 196 = some true := by kernel_rfl
theorem zero_196 : zeroOf Tryz.prog 196 = some [] := by kernel_rfl
theorem bytes_196 : bytesOf Tryz.prog 196 = some 0 := by kernel_rfl
theorem field_196x0 : fieldOf Tryz.prog 196 0 = some (194, 0) := by kernel_rfl
theorem places_196 : placesOf Tryz.prog 196 = some [(0, 0)] := by kernel_rfl
attribute [simp] sz_196 agg_196 zero_196 bytes_196 field_196x0 places_196
theorem sz_197 : szOf Tryz.prog 197 = some 1 := by kernel_rfl
theorem agg_197 : aggOf Tryz.prog 197 = some false := by kernel_rfl
theorem zero_197 : zeroOf Tryz.prog 197 = some [.nilFunc] := by kernel_rfl
theorem bytes_197 : bytesOf Tryz.prog 197 = some 8 := by kernel_rfl
attribute [simp] sz_197 agg_197 zero_197 bytes_197
theorem sz_198 : szOf Tryz.prog 198 = some 1 := by kernel_rfl
theorem agg_198 : aggOf Tryz.prog 198 = some false := by kernel_rfl
theorem zero_198 : zeroOf Tryz.prog 198 = some [.int .u8 0] := by kernel_rfl
theorem bytes_198 : bytesOf Tryz.prog 198 = some 1 := by kernel_rfl
theorem int_198 : intOfT Tryz.prog 198 = some .u8 := by kernel_rfl
theorem und_198 : (Tryz.prog.underlying 198).isSome = true := by kernel_rfl
attribute [simp] sz_198 agg_198 zero_198 bytes_198 int_198 und_198
theorem sz_199 : szOf Tryz.prog 199 = some 1 := by kernel_rfl
theorem agg_199 : aggOf Tryz.prog 199 = some false := by kernel_rfl
theorem zero_199 : zeroOf Tryz.prog 199 = some [.int .u8 0] := by kernel_rfl
theorem bytes_199 : bytesOf Tryz.prog 199 = some 1 := by kernel_rfl
theorem int_199 : intOfT Tryz.prog 199 = some .u8 := by kernel_rfl
theorem und_199 : (Tryz.prog.underlying 199).isSome = true := by kernel_rfl
attribute [simp] sz_199 agg_199 zero_199 bytes_199 int_199 und_199
theorem sz_200 : szOf Tryz.prog 200 = some 1 := by kernel_rfl
theorem agg_200 : aggOf Tryz.prog 200 = some false := by kernel_rfl
theorem zero_200 : zeroOf Tryz.prog 200 = some [.nilFunc] := by kernel_rfl
theorem bytes_200 : bytesOf Tryz.prog 200 = some 8 := by kernel_rfl
attribute [simp] sz_200 agg_200 zero_200 bytes_200
theorem sz_201 : szOf Tryz.prog 201 = some 1 := by kernel_rfl
theorem agg_201 : aggOf Tryz.prog 201 = some false := by kernel_rfl
theorem zero_201 : zeroOf Tryz.prog 201 = some [.pointer none] := by kernel_rfl
theorem bytes_201 : bytesOf Tryz.prog 201 = some 8 := by kernel_rfl
theorem ptr_201 : isPtr Tryz.prog 201 = true := by kernel_rfl
attribute [simp] sz_201 agg_201 zero_201 bytes_201 ptr_201
theorem sz_202 : szOf Tryz.prog 202 = some 1 := by kernel_rfl
theorem agg_202 : aggOf Tryz.prog 202 = some false := by kernel_rfl
theorem zero_202 : zeroOf Tryz.prog 202 = some [.int .i32 0] := by kernel_rfl
theorem bytes_202 : bytesOf Tryz.prog 202 = some 4 := by kernel_rfl
theorem int_202 : intOfT Tryz.prog 202 = some .i32 := by kernel_rfl
theorem und_202 : (Tryz.prog.underlying 202).isSome = true := by kernel_rfl
attribute [simp] sz_202 agg_202 zero_202 bytes_202 int_202 und_202
theorem sz_203 : szOf Tryz.prog 203 = some 1 := by kernel_rfl
theorem agg_203 : aggOf Tryz.prog 203 = some false := by kernel_rfl
theorem zero_203 : zeroOf Tryz.prog 203 = some [.int .i32 0] := by kernel_rfl
theorem bytes_203 : bytesOf Tryz.prog 203 = some 4 := by kernel_rfl
theorem int_203 : intOfT Tryz.prog 203 = some .i32 := by kernel_rfl
theorem und_203 : (Tryz.prog.underlying 203).isSome = true := by kernel_rfl
attribute [simp] sz_203 agg_203 zero_203 bytes_203 int_203 und_203
theorem sz_204 : szOf Tryz.prog 204 = some 11 := by kernel_rfl
theorem agg_204 : aggOf Tryz.prog 204 = some true := by kernel_rfl
theorem zero_204 : zeroOf Tryz.prog 204 = some [.int .u64 0, .int .u64 0, .int .u32 0, .int .u8 0, .int .u8 0, .int .u8 0, .int .u8 0, .nilFunc, .pointer none, .int .i32 0, .int .i32 0] := by kernel_rfl
theorem bytes_204 : bytesOf Tryz.prog 204 = some 48 := by kernel_rfl
theorem field_204x0 : fieldOf Tryz.prog 204 0 = some (12, 0) := by kernel_rfl
theorem field_204x1 : fieldOf Tryz.prog 204 1 = some (12, 1) := by kernel_rfl
theorem field_204x2 : fieldOf Tryz.prog 204 2 = some (173, 2) := by kernel_rfl
theorem field_204x3 : fieldOf Tryz.prog 204 3 = some (198, 3) := by kernel_rfl
theorem field_204x4 : fieldOf Tryz.prog 204 4 = some (5, 4) := by kernel_rfl
theorem field_204x5 : fieldOf Tryz.prog 204 5 = some (5, 5) := by kernel_rfl
theorem field_204x6 : fieldOf Tryz.prog 204 6 = some (199, 6) := by kernel_rfl
theorem field_204x7 : fieldOf Tryz.prog 204 7 = some (200, 7) := by kernel_rfl
theorem field_204x8 : fieldOf Tryz.prog 204 8 = some (201, 8) := by kernel_rfl
theorem field_204x9 : fieldOf Tryz.prog 204 9 = some (202, 9) := by kernel_rfl
theorem field_204x10 : fieldOf Tryz.prog 204 10 = some (203, 10) := by kernel_rfl
theorem places_204 : placesOf Tryz.prog 204 = some [(0, 1), (1, 1), (2, 1), (3, 1), (4, 1), (5, 1), (6, 1), (7, 1), (8, 1), (9, 1), (10, 1)] := by kernel_rfl
attribute [simp] sz_204 agg_204 zero_204 bytes_204 field_204x0 field_204x1 field_204x2 field_204x3 field_204x4 field_204x5 field_204x6 field_204x7 field_204x8 field_204x9 field_204x10 places_204
theorem sz_205 : szOf Tryz.prog 205 = some 11 := by kernel_rfl
theorem agg_205 : aggOf Tryz.prog 205 = some true := by kernel_rfl
theorem zero_205 : zeroOf Tryz.prog 205 = some [.int .u64 0, .int .u64 0, .int .u32 0, .int .u8 0, .int .u8 0, .int .u8 0, .int .u8 0, .nilFunc, .pointer none, .int .i32 0, .int .i32 0] := by kernel_rfl
theorem bytes_205 : bytesOf Tryz.prog 205 = some 48 := by kernel_rfl
theorem field_205x0 : fieldOf Tryz.prog 205 0 = some (12, 0) := by kernel_rfl
theorem field_205x1 : fieldOf Tryz.prog 205 1 = some (12, 1) := by kernel_rfl
theorem field_205x2 : fieldOf Tryz.prog 205 2 = some (173, 2) := by kernel_rfl
theorem field_205x3 : fieldOf Tryz.prog 205 3 = some (198, 3) := by kernel_rfl
theorem field_205x4 : fieldOf Tryz.prog 205 4 = some (5, 4) := by kernel_rfl
theorem field_205x5 : fieldOf Tryz.prog 205 5 = some (5, 5) := by kernel_rfl
theorem field_205x6 : fieldOf Tryz.prog 205 6 = some (199, 6) := by kernel_rfl
theorem field_205x7 : fieldOf Tryz.prog 205 7 = some (200, 7) := by kernel_rfl
theorem field_205x8 : fieldOf Tryz.prog 205 8 = some (201, 8) := by kernel_rfl
theorem field_205x9 : fieldOf Tryz.prog 205 9 = some (202, 9) := by kernel_rfl
theorem field_205x10 : fieldOf Tryz.prog 205 10 = some (203, 10) := by kernel_rfl
theorem places_205 : placesOf Tryz.prog 205 = some [(0, 1), (1, 1), (2, 1), (3, 1), (4, 1), (5, 1), (6, 1), (7, 1), (8, 1), (9, 1), (10, 1)] := by kernel_rfl
attribute [simp] sz_205 agg_205 zero_205 bytes_205 field_205x0 field_205x1 field_205x2 field_205x3 field_205x4 field_205x5 field_205x6 field_205x7 field_205x8 field_205x9 field_205x10 places_205
theorem sz_206 : szOf Tryz.prog 206 = some 1 := by kernel_rfl
theorem agg_206 : aggOf Tryz.prog 206 = some true := by kernel_rfl
theorem zero_206 : zeroOf Tryz.prog 206 = some [.string ⟨#[]⟩] := by kernel_rfl
theorem bytes_206 : bytesOf Tryz.prog 206 = some 16 := by kernel_rfl
theorem eqf_206 : eqfOf Tryz.prog 206 = some [(9, 0)] := by kernel_rfl
theorem ng_206 : noGuard Tryz.prog 206 = true := by kernel_rfl
theorem field_206x0 : fieldOf Tryz.prog 206 0 = some (9, 0) := by kernel_rfl
theorem places_206 : placesOf Tryz.prog 206 = some [(0, 1)] := by kernel_rfl
attribute [simp] sz_206 agg_206 zero_206 bytes_206 eqf_206 ng_206 field_206x0 places_206
theorem sz_207 : szOf Tryz.prog 207 = some 1 := by kernel_rfl
theorem agg_207 : aggOf Tryz.prog 207 = some true := by kernel_rfl
theorem zero_207 : zeroOf Tryz.prog 207 = some [.string ⟨#[]⟩] := by kernel_rfl
theorem bytes_207 : bytesOf Tryz.prog 207 = some 16 := by kernel_rfl
theorem eqf_207 : eqfOf Tryz.prog 207 = some [(9, 0)] := by kernel_rfl
theorem ng_207 : noGuard Tryz.prog 207 = true := by kernel_rfl
theorem field_207x0 : fieldOf Tryz.prog 207 0 = some (9, 0) := by kernel_rfl
theorem places_207 : placesOf Tryz.prog 207 = some [(0, 1)] := by kernel_rfl
attribute [simp] sz_207 agg_207 zero_207 bytes_207 eqf_207 ng_207 field_207x0 places_207
theorem sz_208 : szOf Tryz.prog 208 = some 1 := by kernel_rfl
theorem agg_208 : aggOf Tryz.prog 208 = some false := by kernel_rfl
theorem zero_208 : zeroOf Tryz.prog 208 = some [.pointer none] := by kernel_rfl
theorem bytes_208 : bytesOf Tryz.prog 208 = some 8 := by kernel_rfl
attribute [simp] sz_208 agg_208 zero_208 bytes_208
@[simp] theorem en_3 : enterable Tryz.prog 3 = true := by kernel_rfl
@[simp] theorem en_4 : enterable Tryz.prog 4 = true := by kernel_rfl
@[simp] theorem en_5 : enterable Tryz.prog 5 = true := by kernel_rfl
@[simp] theorem en_6 : enterable Tryz.prog 6 = true := by kernel_rfl
@[simp] theorem en_7 : enterable Tryz.prog 7 = true := by kernel_rfl
@[simp] theorem en_8 : enterable Tryz.prog 8 = true := by kernel_rfl
@[simp] theorem en_9 : enterable Tryz.prog 9 = true := by kernel_rfl
@[simp] theorem en_10 : enterable Tryz.prog 10 = true := by kernel_rfl
@[simp] theorem en_11 : enterable Tryz.prog 11 = true := by kernel_rfl
@[simp] theorem en_12 : enterable Tryz.prog 12 = true := by kernel_rfl
@[simp] theorem en_13 : enterable Tryz.prog 13 = true := by kernel_rfl
@[simp] theorem en_14 : enterable Tryz.prog 14 = true := by kernel_rfl
@[simp] theorem en_15 : enterable Tryz.prog 15 = true := by kernel_rfl
@[simp] theorem en_16 : enterable Tryz.prog 16 = true := by kernel_rfl
@[simp] theorem en_17 : enterable Tryz.prog 17 = true := by kernel_rfl
@[simp] theorem en_18 : enterable Tryz.prog 18 = true := by kernel_rfl
@[simp] theorem en_19 : enterable Tryz.prog 19 = true := by kernel_rfl
@[simp] theorem en_20 : enterable Tryz.prog 20 = true := by kernel_rfl
@[simp] theorem en_21 : enterable Tryz.prog 21 = true := by kernel_rfl
@[simp] theorem en_22 : enterable Tryz.prog 22 = true := by kernel_rfl
@[simp] theorem en_23 : enterable Tryz.prog 23 = true := by kernel_rfl
@[simp] theorem en_24 : enterable Tryz.prog 24 = true := by kernel_rfl
@[simp] theorem en_25 : enterable Tryz.prog 25 = true := by kernel_rfl
@[simp] theorem en_26 : enterable Tryz.prog 26 = true := by kernel_rfl
@[simp] theorem en_27 : enterable Tryz.prog 27 = true := by kernel_rfl
@[simp] theorem en_28 : enterable Tryz.prog 28 = true := by kernel_rfl
@[simp] theorem en_29 : enterable Tryz.prog 29 = true := by kernel_rfl
@[simp] theorem en_30 : enterable Tryz.prog 30 = true := by kernel_rfl
@[simp] theorem en_31 : enterable Tryz.prog 31 = true := by kernel_rfl
@[simp] theorem en_32 : enterable Tryz.prog 32 = true := by kernel_rfl
@[simp] theorem en_33 : enterable Tryz.prog 33 = true := by kernel_rfl
@[simp] theorem en_34 : enterable Tryz.prog 34 = true := by kernel_rfl
@[simp] theorem en_35 : enterable Tryz.prog 35 = true := by kernel_rfl
@[simp] theorem en_36 : enterable Tryz.prog 36 = true := by kernel_rfl
@[simp] theorem en_37 : enterable Tryz.prog 37 = true := by kernel_rfl
@[simp] theorem en_38 : enterable Tryz.prog 38 = true := by kernel_rfl
@[simp] theorem en_39 : enterable Tryz.prog 39 = true := by kernel_rfl
@[simp] theorem en_40 : enterable Tryz.prog 40 = true := by kernel_rfl
@[simp] theorem en_41 : enterable Tryz.prog 41 = true := by kernel_rfl
@[simp] theorem en_42 : enterable Tryz.prog 42 = true := by kernel_rfl
@[simp] theorem en_43 : enterable Tryz.prog 43 = true := by kernel_rfl
@[simp] theorem en_44 : enterable Tryz.prog 44 = true := by kernel_rfl
@[simp] theorem en_45 : enterable Tryz.prog 45 = true := by kernel_rfl
@[simp] theorem en_46 : enterable Tryz.prog 46 = true := by kernel_rfl
@[simp] theorem en_47 : enterable Tryz.prog 47 = true := by kernel_rfl
@[simp] theorem en_48 : enterable Tryz.prog 48 = true := by kernel_rfl
@[simp] theorem en_49 : enterable Tryz.prog 49 = true := by kernel_rfl
@[simp] theorem en_50 : enterable Tryz.prog 50 = true := by kernel_rfl
@[simp] theorem en_51 : enterable Tryz.prog 51 = true := by kernel_rfl
@[simp] theorem en_52 : enterable Tryz.prog 52 = true := by kernel_rfl
@[simp] theorem en_53 : enterable Tryz.prog 53 = true := by kernel_rfl
@[simp] theorem en_54 : enterable Tryz.prog 54 = true := by kernel_rfl
@[simp] theorem en_55 : enterable Tryz.prog 55 = true := by kernel_rfl
@[simp] theorem en_56 : enterable Tryz.prog 56 = true := by kernel_rfl
@[simp] theorem en_57 : enterable Tryz.prog 57 = true := by kernel_rfl
@[simp] theorem en_58 : enterable Tryz.prog 58 = true := by kernel_rfl
@[simp] theorem en_59 : enterable Tryz.prog 59 = true := by kernel_rfl
@[simp] theorem en_60 : enterable Tryz.prog 60 = true := by kernel_rfl
@[simp] theorem en_61 : enterable Tryz.prog 61 = true := by kernel_rfl
@[simp] theorem en_62 : enterable Tryz.prog 62 = true := by kernel_rfl
@[simp] theorem en_63 : enterable Tryz.prog 63 = true := by kernel_rfl
@[simp] theorem en_64 : enterable Tryz.prog 64 = true := by kernel_rfl
@[simp] theorem en_65 : enterable Tryz.prog 65 = true := by kernel_rfl
@[simp] theorem en_66 : enterable Tryz.prog 66 = true := by kernel_rfl
@[simp] theorem en_67 : enterable Tryz.prog 67 = true := by kernel_rfl
@[simp] theorem en_68 : enterable Tryz.prog 68 = true := by kernel_rfl
@[simp] theorem en_69 : enterable Tryz.prog 69 = true := by kernel_rfl
@[simp] theorem en_70 : enterable Tryz.prog 70 = true := by kernel_rfl
@[simp] theorem en_71 : enterable Tryz.prog 71 = true := by kernel_rfl
@[simp] theorem en_72 : enterable Tryz.prog 72 = true := by kernel_rfl
@[simp] theorem en_73 : enterable Tryz.prog 73 = true := by kernel_rfl
@[simp] theorem en_74 : enterable Tryz.prog 74 = true := by kernel_rfl
@[simp] theorem en_75 : enterable Tryz.prog 75 = true := by kernel_rfl
@[simp] theorem en_76 : enterable Tryz.prog 76 = true := by kernel_rfl
@[simp] theorem en_77 : enterable Tryz.prog 77 = true := by kernel_rfl
@[simp] theorem en_78 : enterable Tryz.prog 78 = true := by kernel_rfl
@[simp] theorem en_79 : enterable Tryz.prog 79 = true := by kernel_rfl
@[simp] theorem en_80 : enterable Tryz.prog 80 = true := by kernel_rfl
@[simp] theorem en_81 : enterable Tryz.prog 81 = true := by kernel_rfl
@[simp] theorem en_82 : enterable Tryz.prog 82 = true := by kernel_rfl
@[simp] theorem en_83 : enterable Tryz.prog 83 = true := by kernel_rfl
@[simp] theorem en_84 : enterable Tryz.prog 84 = true := by kernel_rfl
@[simp] theorem en_85 : enterable Tryz.prog 85 = true := by kernel_rfl
@[simp] theorem en_86 : enterable Tryz.prog 86 = true := by kernel_rfl
@[simp] theorem en_87 : enterable Tryz.prog 87 = true := by kernel_rfl
@[simp] theorem en_88 : enterable Tryz.prog 88 = true := by kernel_rfl
@[simp] theorem en_89 : enterable Tryz.prog 89 = true := by kernel_rfl
@[simp] theorem en_90 : enterable Tryz.prog 90 = true := by kernel_rfl
@[simp] theorem en_91 : enterable Tryz.prog 91 = true := by kernel_rfl
@[simp] theorem en_92 : enterable Tryz.prog 92 = true := by kernel_rfl
@[simp] theorem en_93 : enterable Tryz.prog 93 = true := by kernel_rfl
@[simp] theorem en_94 : enterable Tryz.prog 94 = true := by kernel_rfl
@[simp] theorem en_95 : enterable Tryz.prog 95 = true := by kernel_rfl
@[simp] theorem en_96 : enterable Tryz.prog 96 = true := by kernel_rfl
@[simp] theorem en_97 : enterable Tryz.prog 97 = true := by kernel_rfl
@[simp] theorem en_98 : enterable Tryz.prog 98 = true := by kernel_rfl
@[simp] theorem en_99 : enterable Tryz.prog 99 = true := by kernel_rfl
@[simp] theorem en_100 : enterable Tryz.prog 100 = true := by kernel_rfl
@[simp] theorem en_101 : enterable Tryz.prog 101 = true := by kernel_rfl
@[simp] theorem en_102 : enterable Tryz.prog 102 = true := by kernel_rfl
@[simp] theorem en_103 : enterable Tryz.prog 103 = true := by kernel_rfl
@[simp] theorem en_104 : enterable Tryz.prog 104 = true := by kernel_rfl
@[simp] theorem en_105 : enterable Tryz.prog 105 = true := by kernel_rfl
@[simp] theorem en_106 : enterable Tryz.prog 106 = true := by kernel_rfl
@[simp] theorem en_107 : enterable Tryz.prog 107 = true := by kernel_rfl
@[simp] theorem en_108 : enterable Tryz.prog 108 = true := by kernel_rfl
@[simp] theorem en_109 : enterable Tryz.prog 109 = true := by kernel_rfl
@[simp] theorem en_110 : enterable Tryz.prog 110 = true := by kernel_rfl
@[simp] theorem en_111 : enterable Tryz.prog 111 = true := by kernel_rfl
@[simp] theorem en_112 : enterable Tryz.prog 112 = true := by kernel_rfl
@[simp] theorem en_113 : enterable Tryz.prog 113 = true := by kernel_rfl
@[simp] theorem en_114 : enterable Tryz.prog 114 = true := by kernel_rfl
@[simp] theorem en_115 : enterable Tryz.prog 115 = true := by kernel_rfl
@[simp] theorem en_116 : enterable Tryz.prog 116 = true := by kernel_rfl
@[simp] theorem en_117 : enterable Tryz.prog 117 = true := by kernel_rfl
@[simp] theorem en_118 : enterable Tryz.prog 118 = true := by kernel_rfl
@[simp] theorem en_119 : enterable Tryz.prog 119 = true := by kernel_rfl
end Go.Proofs.YtfojnhceiabbhaaGreat.Am
