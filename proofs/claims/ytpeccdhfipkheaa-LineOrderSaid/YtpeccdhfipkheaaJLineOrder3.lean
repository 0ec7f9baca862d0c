/- LineOrder, part 3 of 6: what the proof of the law rests on. Conditions: none. -/
import Derived.Test.YtpeccdhfipkheaaProg
import Derived.Test.YtpeccdhfipkheaaJLineOrder2
set_option linter.unusedSimpArgs false
set_option linter.unusedVariables false
/- Facts about the types of the program: by the kernel. Conditions: none. -/
namespace Go.Abs
open Go.Proofs
theorem u_0 : Try.prog.underlying 0 = some (TypeDesc.tuple #[]) := by kernel_rfl
theorem ag_0 : isAggA Try.prog 0 = some false := by kernel_rfl
theorem sz_0 : sizeA Try.prog 0 = some 1 := by kernel_rfl
theorem by_0 : bytesA Try.prog 0 = some 0 := by kernel_rfl
theorem ze_0 : zeroA Try.prog 0 = some [Value.tuple #[]] := by kernel_rfl
theorem es_0 : eszA Try.prog 0 = some 1 := by kernel_rfl
theorem u_1 : Try.prog.underlying 1 = some (TypeDesc.func #[] #[] false) := by kernel_rfl
theorem ag_1 : isAggA Try.prog 1 = some false := by kernel_rfl
theorem sz_1 : sizeA Try.prog 1 = some 1 := by kernel_rfl
theorem by_1 : bytesA Try.prog 1 = some 8 := by kernel_rfl
theorem ze_1 : zeroA Try.prog 1 = some [Value.nilFunc] := by kernel_rfl
theorem es_1 : eszA Try.prog 1 = some 1 := by kernel_rfl
theorem u_2 : Try.prog.underlying 2 = some (TypeDesc.int IntKind.i64) := by kernel_rfl
theorem ag_2 : isAggA Try.prog 2 = some false := by kernel_rfl
theorem sz_2 : sizeA Try.prog 2 = some 1 := by kernel_rfl
theorem by_2 : bytesA Try.prog 2 = some 8 := by kernel_rfl
theorem ze_2 : zeroA Try.prog 2 = some [Value.int IntKind.i64 (0)] := by kernel_rfl
theorem es_2 : eszA Try.prog 2 = some 1 := by kernel_rfl
theorem u_3 : Try.prog.underlying 3 = some (TypeDesc.int IntKind.i64) := by kernel_rfl
theorem ag_3 : isAggA Try.prog 3 = some false := by kernel_rfl
theorem sz_3 : sizeA Try.prog 3 = some 1 := by kernel_rfl
theorem by_3 : bytesA Try.prog 3 = some 8 := by kernel_rfl
theorem ze_3 : zeroA Try.prog 3 = some [Value.int IntKind.i64 (0)] := by kernel_rfl
theorem es_3 : eszA Try.prog 3 = some 1 := by kernel_rfl
theorem u_4 : Try.prog.underlying 4 = some TypeDesc.bool := by kernel_rfl
theorem ag_4 : isAggA Try.prog 4 = some false := by kernel_rfl
theorem sz_4 : sizeA Try.prog 4 = some 1 := by kernel_rfl
theorem by_4 : bytesA Try.prog 4 = some 1 := by kernel_rfl
theorem ze_4 : zeroA Try.prog 4 = some [Value.bool false] := by kernel_rfl
theorem bo_4 : isBoolT Try.prog 4 = true := by kernel_rfl
theorem es_4 : eszA Try.prog 4 = some 1 := by kernel_rfl
theorem u_5 : Try.prog.underlying 5 = some (TypeDesc.int IntKind.u8) := by kernel_rfl
theorem ag_5 : isAggA Try.prog 5 = some false := by kernel_rfl
theorem sz_5 : sizeA Try.prog 5 = some 1 := by kernel_rfl
theorem by_5 : bytesA Try.prog 5 = some 1 := by kernel_rfl
theorem ze_5 : zeroA Try.prog 5 = some [Value.int IntKind.u8 (0)] := by kernel_rfl
theorem u8_5 : isU8 Try.prog 5 = true := by kernel_rfl
theorem es_5 : eszA Try.prog 5 = some 1 := by kernel_rfl
theorem u_6 : Try.prog.underlying 6 = some (TypeDesc.int IntKind.u8) := by kernel_rfl
theorem ag_6 : isAggA Try.prog 6 = some false := by kernel_rfl
theorem sz_6 : sizeA Try.prog 6 = some 1 := by kernel_rfl
theorem by_6 : bytesA Try.prog 6 = some 1 := by kernel_rfl
theorem ze_6 : zeroA Try.prog 6 = some [Value.int IntKind.u8 (0)] := by kernel_rfl
theorem u8_6 : isU8 Try.prog 6 = true := by kernel_rfl
theorem es_6 : eszA Try.prog 6 = some 1 := by kernel_rfl
theorem u_7 : Try.prog.underlying 7 = some (TypeDesc.struct #[{ name := "x", type := 2, offset := 0, embedded := false, tag := "", pkgPath := "runtime", byteOffset := 0 }, { name := "y", type := 3, offset := 1, embedded := false, tag := "", pkgPath := "runtime", byteOffset := 8 }, { name := "signed", type := 4, offset := 2, embedded := false, tag := "", pkgPath := "runtime", byteOffset := 16 }, { name := "code", type := 6, offset := 3, embedded := false, tag := "", pkgPath := "runtime", byteOffset := 17 }]) := by kernel_rfl
theorem f_7_0 : fieldA Try.prog 7 0 = some (0, 2) := by kernel_rfl
theorem f_7_1 : fieldA Try.prog 7 1 = some (1, 3) := by kernel_rfl
theorem f_7_2 : fieldA Try.prog 7 2 = some (2, 4) := by kernel_rfl
theorem f_7_3 : fieldA Try.prog 7 3 = some (3, 6) := by kernel_rfl
theorem ag_7 : isAggA Try.prog 7 = some true := by kernel_rfl
theorem sz_7 : sizeA Try.prog 7 = some 4 := by kernel_rfl
theorem by_7 : bytesA Try.prog 7 = some 24 := by kernel_rfl
theorem ze_7 : zeroA Try.prog 7 = some [Value.int IntKind.i64 (0), Value.int IntKind.i64 (0), Value.bool false, Value.int IntKind.u8 (0)] := by kernel_rfl
theorem pl_7 : placesA Try.prog 7 = some [(0, 1), (1, 1), (2, 1), (3, 1)] := by kernel_rfl
theorem es_7 : eszA Try.prog 7 = some 4 := by kernel_rfl
theorem u_8 : Try.prog.underlying 8 = some (TypeDesc.struct #[{ name := "x", type := 2, offset := 0, embedded := false, tag := "", pkgPath := "runtime", byteOffset := 0 }, { name := "y", type := 3, offset := 1, embedded := false, tag := "", pkgPath := "runtime", byteOffset := 8 }, { name := "signed", type := 4, offset := 2, embedded := false, tag := "", pkgPath := "runtime", byteOffset := 16 }, { name := "code", type := 6, offset := 3, embedded := false, tag := "", pkgPath := "runtime", byteOffset := 17 }]) := by kernel_rfl
theorem f_8_0 : fieldA Try.prog 8 0 = some (0, 2) := by kernel_rfl
theorem f_8_1 : fieldA Try.prog 8 1 = some (1, 3) := by kernel_rfl
theorem f_8_2 : fieldA Try.prog 8 2 = some (2, 4) := by kernel_rfl
theorem f_8_3 : fieldA Try.prog 8 3 = some (3, 6) := by kernel_rfl
theorem ag_8 : isAggA Try.prog 8 = some true := by kernel_rfl
theorem sz_8 : sizeA Try.prog 8 = some 4 := by kernel_rfl
theorem by_8 : bytesA Try.prog 8 = some 24 := by kernel_rfl
theorem ze_8 : zeroA Try.prog 8 = some [Value.int IntKind.i64 (0), Value.int IntKind.i64 (0), Value.bool false, Value.int IntKind.u8 (0)] := by kernel_rfl
theorem pl_8 : placesA Try.prog 8 = some [(0, 1), (1, 1), (2, 1), (3, 1)] := by kernel_rfl
theorem es_8 : eszA Try.prog 8 = some 4 := by kernel_rfl
theorem u_9 : Try.prog.underlying 9 = some TypeDesc.string := by kernel_rfl
theorem ag_9 : isAggA Try.prog 9 = some false := by kernel_rfl
theorem sz_9 : sizeA Try.prog 9 = some 1 := by kernel_rfl
theorem by_9 : bytesA Try.prog 9 = some 16 := by kernel_rfl
theorem ze_9 : zeroA Try.prog 9 = some [Value.string ⟨#[]⟩] := by kernel_rfl
theorem es_9 : eszA Try.prog 9 = some 1 := by kernel_rfl
theorem u_10 : Try.prog.underlying 10 = some TypeDesc.string := by kernel_rfl
theorem ag_10 : isAggA Try.prog 10 = some false := by kernel_rfl
theorem sz_10 : sizeA Try.prog 10 = some 1 := by kernel_rfl
theorem by_10 : bytesA Try.prog 10 = some 16 := by kernel_rfl
theorem ze_10 : zeroA Try.prog 10 = some [Value.string ⟨#[]⟩] := by kernel_rfl
theorem es_10 : eszA Try.prog 10 = some 1 := by kernel_rfl
theorem u_11 : Try.prog.underlying 11 = some TypeDesc.string := by kernel_rfl
theorem ag_11 : isAggA Try.prog 11 = some false := by kernel_rfl
theorem sz_11 : sizeA Try.prog 11 = some 1 := by kernel_rfl
theorem by_11 : bytesA Try.prog 11 = some 16 := by kernel_rfl
theorem ze_11 : zeroA Try.prog 11 = some [Value.string ⟨#[]⟩] := by kernel_rfl
theorem es_11 : eszA Try.prog 11 = some 1 := by kernel_rfl
theorem u_12 : Try.prog.underlying 12 = some (TypeDesc.int IntKind.u64) := by kernel_rfl
theorem ag_12 : isAggA Try.prog 12 = some false := by kernel_rfl
theorem sz_12 : sizeA Try.prog 12 = some 1 := by kernel_rfl
theorem by_12 : bytesA Try.prog 12 = some 8 := by kernel_rfl
theorem ze_12 : zeroA Try.prog 12 = some [Value.int IntKind.u64 (0)] := by kernel_rfl
theorem es_12 : eszA Try.prog 12 = some 1 := by kernel_rfl
theorem u_13 : Try.prog.underlying 13 = some (TypeDesc.struct #[{ name := "msg", type := 9, offset := 0, embedded := false, tag := "", pkgPath := "runtime", byteOffset := 0 }, { name := "addr", type := 12, offset := 1, embedded := false, tag := "", pkgPath := "runtime", byteOffset := 16 }]) := by kernel_rfl
theorem f_13_0 : fieldA Try.prog 13 0 = some (0, 9) := by kernel_rfl
theorem f_13_1 : fieldA Try.prog 13 1 = some (1, 12) := by kernel_rfl
theorem ag_13 : isAggA Try.prog 13 = some true := by kernel_rfl
theorem sz_13 : sizeA Try.prog 13 = some 2 := by kernel_rfl
theorem by_13 : bytesA Try.prog 13 = some 24 := by kernel_rfl
theorem ze_13 : zeroA Try.prog 13 = some [Value.string ⟨#[]⟩, Value.int IntKind.u64 (0)] := by kernel_rfl
theorem pl_13 : placesA Try.prog 13 = some [(0, 1), (1, 1)] := by kernel_rfl
theorem es_13 : eszA Try.prog 13 = some 2 := by kernel_rfl
theorem u_14 : Try.prog.underlying 14 = some (TypeDesc.struct #[{ name := "msg", type := 9, offset := 0, embedded := false, tag := "", pkgPath := "runtime", byteOffset := 0 }, { name := "addr", type := 12, offset := 1, embedded := false, tag := "", pkgPath := "runtime", byteOffset := 16 }]) := by kernel_rfl
theorem f_14_0 : fieldA Try.prog 14 0 = some (0, 9) := by kernel_rfl
theorem f_14_1 : fieldA Try.prog 14 1 = some (1, 12) := by kernel_rfl
theorem ag_14 : isAggA Try.prog 14 = some true := by kernel_rfl
theorem sz_14 : sizeA Try.prog 14 = some 2 := by kernel_rfl
theorem by_14 : bytesA Try.prog 14 = some 24 := by kernel_rfl
theorem ze_14 : zeroA Try.prog 14 = some [Value.string ⟨#[]⟩, Value.int IntKind.u64 (0)] := by kernel_rfl
theorem pl_14 : placesA Try.prog 14 = some [(0, 1), (1, 1)] := by kernel_rfl
theorem es_14 : eszA Try.prog 14 = some 2 := by kernel_rfl
theorem u_15 : Try.prog.underlying 15 = some (TypeDesc.pointer 61) := by kernel_rfl
theorem ag_15 : isAggA Try.prog 15 = some false := by kernel_rfl
theorem sz_15 : sizeA Try.prog 15 = some 1 := by kernel_rfl
theorem by_15 : bytesA Try.prog 15 = some 8 := by kernel_rfl
theorem ze_15 : zeroA Try.prog 15 = some [Value.pointer none] := by kernel_rfl
theorem es_15 : eszA Try.prog 15 = some 1 := by kernel_rfl
theorem u_16 : Try.prog.underlying 16 = some (TypeDesc.pointer 64) := by kernel_rfl
theorem ag_16 : isAggA Try.prog 16 = some false := by kernel_rfl
theorem sz_16 : sizeA Try.prog 16 = some 1 := by kernel_rfl
theorem by_16 : bytesA Try.prog 16 = some 8 := by kernel_rfl
theorem ze_16 : zeroA Try.prog 16 = some [Value.pointer none] := by kernel_rfl
theorem es_16 : eszA Try.prog 16 = some 1 := by kernel_rfl
theorem u_17 : Try.prog.underlying 17 = some (TypeDesc.pointer 73) := by kernel_rfl
theorem ag_17 : isAggA Try.prog 17 = some false := by kernel_rfl
theorem sz_17 : sizeA Try.prog 17 = some 1 := by kernel_rfl
theorem by_17 : bytesA Try.prog 17 = some 8 := by kernel_rfl
theorem ze_17 : zeroA Try.prog 17 = some [Value.pointer none] := by kernel_rfl
theorem es_17 : eszA Try.prog 17 = some 1 := by kernel_rfl
theorem u_18 : Try.prog.underlying 18 = some (TypeDesc.struct #[{ name := "typ", type := 17, offset := 0, embedded := false, tag := "", pkgPath := "internal/runtime/maps", byteOffset := 0 }]) := by kernel_rfl
theorem f_18_0 : fieldA Try.prog 18 0 = some (0, 17) := by kernel_rfl
theorem ag_18 : isAggA Try.prog 18 = some true := by kernel_rfl
theorem sz_18 : sizeA Try.prog 18 = some 1 := by kernel_rfl
theorem by_18 : bytesA Try.prog 18 = some 8 := by kernel_rfl
theorem ze_18 : zeroA Try.prog 18 = some [Value.pointer none] := by kernel_rfl
theorem pl_18 : placesA Try.prog 18 = some [(0, 1)] := by kernel_rfl
theorem es_18 : eszA Try.prog 18 = some 1 := by kernel_rfl
theorem u_19 : Try.prog.underlying 19 = some (TypeDesc.struct #[{ name := "typ", type := 17, offset := 0, embedded := false, tag := "", pkgPath := "internal/runtime/maps", byteOffset := 0 }]) := by kernel_rfl
theorem f_19_0 : fieldA Try.prog 19 0 = some (0, 17) := by kernel_rfl
theorem ag_19 : isAggA Try.prog 19 = some true := by kernel_rfl
theorem sz_19 : sizeA Try.prog 19 = some 1 := by kernel_rfl
theorem by_19 : bytesA Try.prog 19 = some 8 := by kernel_rfl
theorem ze_19 : zeroA Try.prog 19 = some [Value.pointer none] := by kernel_rfl
theorem pl_19 : placesA Try.prog 19 = some [(0, 1)] := by kernel_rfl
theorem es_19 : eszA Try.prog 19 = some 1 := by kernel_rfl
theorem u_20 : Try.prog.underlying 20 = some (TypeDesc.interface #[]) := by kernel_rfl
theorem ag_20 : isAggA Try.prog 20 = some false := by kernel_rfl
theorem sz_20 : sizeA Try.prog 20 = some 1 := by kernel_rfl
theorem by_20 : bytesA Try.prog 20 = some 16 := by kernel_rfl
theorem ze_20 : zeroA Try.prog 20 = some [Value.nilIface] := by kernel_rfl
theorem es_20 : eszA Try.prog 20 = some 1 := by kernel_rfl
theorem u_21 : Try.prog.underlying 21 = some (TypeDesc.int IntKind.i32) := by kernel_rfl
theorem ag_21 : isAggA Try.prog 21 = some false := by kernel_rfl
theorem sz_21 : sizeA Try.prog 21 = some 1 := by kernel_rfl
theorem by_21 : bytesA Try.prog 21 = some 4 := by kernel_rfl
theorem ze_21 : zeroA Try.prog 21 = some [Value.int IntKind.i32 (0)] := by kernel_rfl
theorem es_21 : eszA Try.prog 21 = some 1 := by kernel_rfl
theorem u_22 : Try.prog.underlying 22 = some (TypeDesc.slice 26) := by kernel_rfl
theorem ag_22 : isAggA Try.prog 22 = some false := by kernel_rfl
theorem sz_22 : sizeA Try.prog 22 = some 1 := by kernel_rfl
theorem by_22 : bytesA Try.prog 22 = some 24 := by kernel_rfl
theorem ze_22 : zeroA Try.prog 22 = some [Value.slice none 0 0] := by kernel_rfl
theorem es_22 : eszA Try.prog 22 = some 1 := by kernel_rfl
theorem u_23 : Try.prog.underlying 23 = some (TypeDesc.slice 9) := by kernel_rfl
theorem ag_23 : isAggA Try.prog 23 = some false := by kernel_rfl
theorem sz_23 : sizeA Try.prog 23 = some 1 := by kernel_rfl
theorem by_23 : bytesA Try.prog 23 = some 24 := by kernel_rfl
theorem ze_23 : zeroA Try.prog 23 = some [Value.slice none 0 0] := by kernel_rfl
theorem es_23 : eszA Try.prog 23 = some 1 := by kernel_rfl
theorem u_24 : Try.prog.underlying 24 = some (TypeDesc.func #[22] #[22] false) := by kernel_rfl
theorem ag_24 : isAggA Try.prog 24 = some false := by kernel_rfl
theorem sz_24 : sizeA Try.prog 24 = some 1 := by kernel_rfl
theorem by_24 : bytesA Try.prog 24 = some 8 := by kernel_rfl
theorem ze_24 : zeroA Try.prog 24 = some [Value.nilFunc] := by kernel_rfl
theorem es_24 : eszA Try.prog 24 = some 1 := by kernel_rfl
theorem u_25 : Try.prog.underlying 25 = some (TypeDesc.struct #[{ name := "Kind", type := 3, offset := 0, embedded := false, tag := "", pkgPath := "", byteOffset := 0 }, { name := "N", type := 3, offset := 1, embedded := false, tag := "", pkgPath := "", byteOffset := 8 }]) := by kernel_rfl
theorem f_25_0 : fieldA Try.prog 25 0 = some (0, 3) := by kernel_rfl
theorem f_25_1 : fieldA Try.prog 25 1 = some (1, 3) := by kernel_rfl
theorem ag_25 : isAggA Try.prog 25 = some true := by kernel_rfl
theorem sz_25 : sizeA Try.prog 25 = some 2 := by kernel_rfl
theorem by_25 : bytesA Try.prog 25 = some 16 := by kernel_rfl
theorem ze_25 : zeroA Try.prog 25 = some [Value.int IntKind.i64 (0), Value.int IntKind.i64 (0)] := by kernel_rfl
theorem pl_25 : placesA Try.prog 25 = some [(0, 1), (1, 1)] := by kernel_rfl
theorem es_25 : eszA Try.prog 25 = some 2 := by kernel_rfl
theorem u_26 : Try.prog.underlying 26 = some (TypeDesc.struct #[{ name := "Kind", type := 3, offset := 0, embedded := false, tag := "", pkgPath := "", byteOffset := 0 }, { name := "N", type := 3, offset := 1, embedded := false, tag := "", pkgPath := "", byteOffset := 8 }]) := by kernel_rfl
theorem f_26_0 : fieldA Try.prog 26 0 = some (0, 3) := by kernel_rfl
theorem f_26_1 : fieldA Try.prog 26 1 = some (1, 3) := by kernel_rfl
theorem ag_26 : isAggA Try.prog 26 = some true := by kernel_rfl
theorem sz_26 : sizeA Try.prog 26 = some 2 := by kernel_rfl
theorem by_26 : bytesA Try.prog 26 = some 16 := by kernel_rfl
theorem ze_26 : zeroA Try.prog 26 = some [Value.int IntKind.i64 (0), Value.int IntKind.i64 (0)] := by kernel_rfl
theorem pl_26 : placesA Try.prog 26 = some [(0, 1), (1, 1)] := by kernel_rfl
theorem es_26 : eszA Try.prog 26 = some 2 := by kernel_rfl
theorem u_27 : Try.prog.underlying 27 = some (TypeDesc.pointer 46) := by kernel_rfl
theorem ag_27 : isAggA Try.prog 27 = some false := by kernel_rfl
theorem sz_27 : sizeA Try.prog 27 = some 1 := by kernel_rfl
theorem by_27 : bytesA Try.prog 27 = some 8 := by kernel_rfl
theorem ze_27 : zeroA Try.prog 27 = some [Value.pointer none] := by kernel_rfl
theorem es_27 : eszA Try.prog 27 = some 1 := by kernel_rfl
theorem u_28 : Try.prog.underlying 28 = some (TypeDesc.int IntKind.i64) := by kernel_rfl
theorem ag_28 : isAggA Try.prog 28 = some false := by kernel_rfl
theorem sz_28 : sizeA Try.prog 28 = some 1 := by kernel_rfl
theorem by_28 : bytesA Try.prog 28 = some 8 := by kernel_rfl
theorem ze_28 : zeroA Try.prog 28 = some [Value.int IntKind.i64 (0)] := by kernel_rfl
theorem es_28 : eszA Try.prog 28 = some 1 := by kernel_rfl
theorem u_29 : Try.prog.underlying 29 = some (TypeDesc.tuple #[27, 28]) := by kernel_rfl
theorem ag_29 : isAggA Try.prog 29 = some false := by kernel_rfl
theorem sz_29 : sizeA Try.prog 29 = some 1 := by kernel_rfl
theorem by_29 : bytesA Try.prog 29 = some 0 := by kernel_rfl
theorem ze_29 : zeroA Try.prog 29 = some [Value.tuple #[Value.pointer none, Value.int IntKind.i64 (0)]] := by kernel_rfl
theorem es_29 : eszA Try.prog 29 = some 1 := by kernel_rfl
theorem u_30 : Try.prog.underlying 30 = some (TypeDesc.func #[3, 22, 4] #[27, 28] false) := by kernel_rfl
theorem ag_30 : isAggA Try.prog 30 = some false := by kernel_rfl
theorem sz_30 : sizeA Try.prog 30 = some 1 := by kernel_rfl
theorem by_30 : bytesA Try.prog 30 = some 8 := by kernel_rfl
theorem ze_30 : zeroA Try.prog 30 = some [Value.nilFunc] := by kernel_rfl
theorem es_30 : eszA Try.prog 30 = some 1 := by kernel_rfl
theorem u_31 : Try.prog.underlying 31 = some (TypeDesc.func #[3, 3, 3] #[3] false) := by kernel_rfl
theorem ag_31 : isAggA Try.prog 31 = some false := by kernel_rfl
theorem sz_31 : sizeA Try.prog 31 = some 1 := by kernel_rfl
theorem by_31 : bytesA Try.prog 31 = some 8 := by kernel_rfl
theorem ze_31 : zeroA Try.prog 31 = some [Value.nilFunc] := by kernel_rfl
theorem es_31 : eszA Try.prog 31 = some 1 := by kernel_rfl
theorem u_32 : Try.prog.underlying 32 = some (TypeDesc.func #[] #[4] false) := by kernel_rfl
theorem ag_32 : isAggA Try.prog 32 = some false := by kernel_rfl
theorem sz_32 : sizeA Try.prog 32 = some 1 := by kernel_rfl
theorem by_32 : bytesA Try.prog 32 = some 8 := by kernel_rfl
theorem ze_32 : zeroA Try.prog 32 = some [Value.nilFunc] := by kernel_rfl
theorem es_32 : eszA Try.prog 32 = some 1 := by kernel_rfl
theorem u_33 : Try.prog.underlying 33 = some (TypeDesc.func #[3, 9, 3] #[28] false) := by kernel_rfl
theorem ag_33 : isAggA Try.prog 33 = some false := by kernel_rfl
theorem sz_33 : sizeA Try.prog 33 = some 1 := by kernel_rfl
theorem by_33 : bytesA Try.prog 33 = some 8 := by kernel_rfl
theorem ze_33 : zeroA Try.prog 33 = some [Value.nilFunc] := by kernel_rfl
theorem es_33 : eszA Try.prog 33 = some 1 := by kernel_rfl
theorem u_34 : Try.prog.underlying 34 = some (TypeDesc.slice 38) := by kernel_rfl
theorem ag_34 : isAggA Try.prog 34 = some false := by kernel_rfl
theorem sz_34 : sizeA Try.prog 34 = some 1 := by kernel_rfl
theorem by_34 : bytesA Try.prog 34 = some 24 := by kernel_rfl
theorem ze_34 : zeroA Try.prog 34 = some [Value.slice none 0 0] := by kernel_rfl
theorem es_34 : eszA Try.prog 34 = some 1 := by kernel_rfl
theorem u_35 : Try.prog.underlying 35 = some (TypeDesc.tuple #[34, 28]) := by kernel_rfl
theorem ag_35 : isAggA Try.prog 35 = some false := by kernel_rfl
theorem sz_35 : sizeA Try.prog 35 = some 1 := by kernel_rfl
theorem by_35 : bytesA Try.prog 35 = some 0 := by kernel_rfl
theorem ze_35 : zeroA Try.prog 35 = some [Value.tuple #[Value.slice none 0 0, Value.int IntKind.i64 (0)]] := by kernel_rfl
theorem es_35 : eszA Try.prog 35 = some 1 := by kernel_rfl
theorem u_36 : Try.prog.underlying 36 = some (TypeDesc.func #[3] #[34, 28] false) := by kernel_rfl
theorem ag_36 : isAggA Try.prog 36 = some false := by kernel_rfl
theorem sz_36 : sizeA Try.prog 36 = some 1 := by kernel_rfl
theorem by_36 : bytesA Try.prog 36 = some 8 := by kernel_rfl
theorem ze_36 : zeroA Try.prog 36 = some [Value.nilFunc] := by kernel_rfl
theorem es_36 : eszA Try.prog 36 = some 1 := by kernel_rfl
theorem u_37 : Try.prog.underlying 37 = some (TypeDesc.struct #[{ name := "End", type := 3, offset := 0, embedded := false, tag := "", pkgPath := "", byteOffset := 0 }, { name := "Body", type := 9, offset := 1, embedded := false, tag := "", pkgPath := "", byteOffset := 8 }]) := by kernel_rfl
theorem f_37_0 : fieldA Try.prog 37 0 = some (0, 3) := by kernel_rfl
theorem f_37_1 : fieldA Try.prog 37 1 = some (1, 9) := by kernel_rfl
theorem ag_37 : isAggA Try.prog 37 = some true := by kernel_rfl
theorem sz_37 : sizeA Try.prog 37 = some 2 := by kernel_rfl
theorem by_37 : bytesA Try.prog 37 = some 24 := by kernel_rfl
theorem ze_37 : zeroA Try.prog 37 = some [Value.int IntKind.i64 (0), Value.string ⟨#[]⟩] := by kernel_rfl
theorem pl_37 : placesA Try.prog 37 = some [(0, 1), (1, 1)] := by kernel_rfl
theorem es_37 : eszA Try.prog 37 = some 2 := by kernel_rfl
theorem u_38 : Try.prog.underlying 38 = some (TypeDesc.struct #[{ name := "End", type := 3, offset := 0, embedded := false, tag := "", pkgPath := "", byteOffset := 0 }, { name := "Body", type := 9, offset := 1, embedded := false, tag := "", pkgPath := "", byteOffset := 8 }]) := by kernel_rfl
theorem f_38_0 : fieldA Try.prog 38 0 = some (0, 3) := by kernel_rfl
theorem f_38_1 : fieldA Try.prog 38 1 = some (1, 9) := by kernel_rfl
theorem ag_38 : isAggA Try.prog 38 = some true := by kernel_rfl
theorem sz_38 : sizeA Try.prog 38 = some 2 := by kernel_rfl
theorem by_38 : bytesA Try.prog 38 = some 24 := by kernel_rfl
theorem ze_38 : zeroA Try.prog 38 = some [Value.int IntKind.i64 (0), Value.string ⟨#[]⟩] := by kernel_rfl
theorem pl_38 : placesA Try.prog 38 = some [(0, 1), (1, 1)] := by kernel_rfl
theorem es_38 : eszA Try.prog 38 = some 2 := by kernel_rfl
theorem u_39 : Try.prog.underlying 39 = some (TypeDesc.func #[] #[3] false) := by kernel_rfl
theorem ag_39 : isAggA Try.prog 39 = some false := by kernel_rfl
theorem sz_39 : sizeA Try.prog 39 = some 1 := by kernel_rfl
theorem by_39 : bytesA Try.prog 39 = some 8 := by kernel_rfl
theorem ze_39 : zeroA Try.prog 39 = some [Value.nilFunc] := by kernel_rfl
theorem es_39 : eszA Try.prog 39 = some 1 := by kernel_rfl
theorem u_40 : Try.prog.underlying 40 = some (TypeDesc.func #[3, 22, 23] #[4] false) := by kernel_rfl
theorem ag_40 : isAggA Try.prog 40 = some false := by kernel_rfl
theorem sz_40 : sizeA Try.prog 40 = some 1 := by kernel_rfl
theorem by_40 : bytesA Try.prog 40 = some 8 := by kernel_rfl
theorem ze_40 : zeroA Try.prog 40 = some [Value.nilFunc] := by kernel_rfl
theorem es_40 : eszA Try.prog 40 = some 1 := by kernel_rfl
theorem u_41 : Try.prog.underlying 41 = some (TypeDesc.func #[4] #[] false) := by kernel_rfl
theorem ag_41 : isAggA Try.prog 41 = some false := by kernel_rfl
theorem sz_41 : sizeA Try.prog 41 = some 1 := by kernel_rfl
theorem by_41 : bytesA Try.prog 41 = some 8 := by kernel_rfl
theorem ze_41 : zeroA Try.prog 41 = some [Value.nilFunc] := by kernel_rfl
theorem es_41 : eszA Try.prog 41 = some 1 := by kernel_rfl
theorem u_42 : Try.prog.underlying 42 = some (TypeDesc.func #[3, 9, 9] #[4] false) := by kernel_rfl
theorem ag_42 : isAggA Try.prog 42 = some false := by kernel_rfl
theorem sz_42 : sizeA Try.prog 42 = some 1 := by kernel_rfl
theorem by_42 : bytesA Try.prog 42 = some 8 := by kernel_rfl
theorem ze_42 : zeroA Try.prog 42 = some [Value.nilFunc] := by kernel_rfl
theorem es_42 : eszA Try.prog 42 = some 1 := by kernel_rfl
theorem u_43 : Try.prog.underlying 43 = some (TypeDesc.func #[22] #[28] false) := by kernel_rfl
theorem ag_43 : isAggA Try.prog 43 = some false := by kernel_rfl
theorem sz_43 : sizeA Try.prog 43 = some 1 := by kernel_rfl
theorem by_43 : bytesA Try.prog 43 = some 8 := by kernel_rfl
theorem ze_43 : zeroA Try.prog 43 = some [Value.nilFunc] := by kernel_rfl
theorem es_43 : eszA Try.prog 43 = some 1 := by kernel_rfl
theorem u_44 : Try.prog.underlying 44 = some (TypeDesc.slice 49) := by kernel_rfl
theorem ag_44 : isAggA Try.prog 44 = some false := by kernel_rfl
theorem sz_44 : sizeA Try.prog 44 = some 1 := by kernel_rfl
theorem by_44 : bytesA Try.prog 44 = some 24 := by kernel_rfl
theorem ze_44 : zeroA Try.prog 44 = some [Value.slice none 0 0] := by kernel_rfl
theorem es_44 : eszA Try.prog 44 = some 1 := by kernel_rfl
theorem u_45 : Try.prog.underlying 45 = some (TypeDesc.struct #[{ name := "delay", type := 3, offset := 0, embedded := false, tag := "", pkgPath := "patchbay/line", byteOffset := 0 }, { name := "now", type := 3, offset := 1, embedded := false, tag := "", pkgPath := "patchbay/line", byteOffset := 8 }, { name := "fates", type := 22, offset := 2, embedded := false, tag := "", pkgPath := "patchbay/line", byteOffset := 16 }, { name := "again", type := 4, offset := 3, embedded := false, tag := "", pkgPath := "patchbay/line", byteOffset := 40 }, { name := "up", type := 4, offset := 4, embedded := false, tag := "", pkgPath := "patchbay/line", byteOffset := 41 }, { name := "next", type := 3, offset := 5, embedded := false, tag := "", pkgPath := "patchbay/line", byteOffset := 48 }, { name := "flying", type := 44, offset := 6, embedded := false, tag := "", pkgPath := "patchbay/line", byteOffset := 56 }]) := by kernel_rfl
theorem f_45_0 : fieldA Try.prog 45 0 = some (0, 3) := by kernel_rfl
theorem f_45_1 : fieldA Try.prog 45 1 = some (1, 3) := by kernel_rfl
theorem f_45_2 : fieldA Try.prog 45 2 = some (2, 22) := by kernel_rfl
theorem f_45_3 : fieldA Try.prog 45 3 = some (3, 4) := by kernel_rfl
theorem f_45_4 : fieldA Try.prog 45 4 = some (4, 4) := by kernel_rfl
theorem f_45_5 : fieldA Try.prog 45 5 = some (5, 3) := by kernel_rfl
theorem f_45_6 : fieldA Try.prog 45 6 = some (6, 44) := by kernel_rfl
theorem ag_45 : isAggA Try.prog 45 = some true := by kernel_rfl
theorem sz_45 : sizeA Try.prog 45 = some 7 := by kernel_rfl
theorem by_45 : bytesA Try.prog 45 = some 80 := by kernel_rfl
theorem ze_45 : zeroA Try.prog 45 = some [Value.int IntKind.i64 (0), Value.int IntKind.i64 (0), Value.slice none 0 0, Value.bool false, Value.bool false, Value.int IntKind.i64 (0), Value.slice none 0 0] := by kernel_rfl
theorem pl_45 : placesA Try.prog 45 = some [(0, 1), (1, 1), (2, 1), (3, 1), (4, 1), (5, 1), (6, 1)] := by kernel_rfl
theorem es_45 : eszA Try.prog 45 = some 7 := by kernel_rfl
theorem u_46 : Try.prog.underlying 46 = some (TypeDesc.struct #[{ name := "delay", type := 3, offset := 0, embedded := false, tag := "", pkgPath := "patchbay/line", byteOffset := 0 }, { name := "now", type := 3, offset := 1, embedded := false, tag := "", pkgPath := "patchbay/line", byteOffset := 8 }, { name := "fates", type := 22, offset := 2, embedded := false, tag := "", pkgPath := "patchbay/line", byteOffset := 16 }, { name := "again", type := 4, offset := 3, embedded := false, tag := "", pkgPath := "patchbay/line", byteOffset := 40 }, { name := "up", type := 4, offset := 4, embedded := false, tag := "", pkgPath := "patchbay/line", byteOffset := 41 }, { name := "next", type := 3, offset := 5, embedded := false, tag := "", pkgPath := "patchbay/line", byteOffset := 48 }, { name := "flying", type := 44, offset := 6, embedded := false, tag := "", pkgPath := "patchbay/line", byteOffset := 56 }]) := by kernel_rfl
theorem f_46_0 : fieldA Try.prog 46 0 = some (0, 3) := by kernel_rfl
theorem f_46_1 : fieldA Try.prog 46 1 = some (1, 3) := by kernel_rfl
theorem f_46_2 : fieldA Try.prog 46 2 = some (2, 22) := by kernel_rfl
theorem f_46_3 : fieldA Try.prog 46 3 = some (3, 4) := by kernel_rfl
theorem f_46_4 : fieldA Try.prog 46 4 = some (4, 4) := by kernel_rfl
theorem f_46_5 : fieldA Try.prog 46 5 = some (5, 3) := by kernel_rfl
theorem f_46_6 : fieldA Try.prog 46 6 = some (6, 44) := by kernel_rfl
theorem ag_46 : isAggA Try.prog 46 = some true := by kernel_rfl
theorem sz_46 : sizeA Try.prog 46 = some 7 := by kernel_rfl
theorem by_46 : bytesA Try.prog 46 = some 80 := by kernel_rfl
theorem ze_46 : zeroA Try.prog 46 = some [Value.int IntKind.i64 (0), Value.int IntKind.i64 (0), Value.slice none 0 0, Value.bool false, Value.bool false, Value.int IntKind.i64 (0), Value.slice none 0 0] := by kernel_rfl
theorem pl_46 : placesA Try.prog 46 = some [(0, 1), (1, 1), (2, 1), (3, 1), (4, 1), (5, 1), (6, 1)] := by kernel_rfl
theorem es_46 : eszA Try.prog 46 = some 7 := by kernel_rfl
theorem u_47 : Try.prog.underlying 47 = some (TypeDesc.func #[3] #[28] false) := by kernel_rfl
theorem ag_47 : isAggA Try.prog 47 = some false := by kernel_rfl
theorem sz_47 : sizeA Try.prog 47 = some 1 := by kernel_rfl
theorem by_47 : bytesA Try.prog 47 = some 8 := by kernel_rfl
theorem ze_47 : zeroA Try.prog 47 = some [Value.nilFunc] := by kernel_rfl
theorem es_47 : eszA Try.prog 47 = some 1 := by kernel_rfl
theorem u_48 : Try.prog.underlying 48 = some (TypeDesc.struct #[{ name := "LineGot", type := 38, offset := 0, embedded := true, tag := "", pkgPath := "", byteOffset := 0 }, { name := "at", type := 3, offset := 2, embedded := false, tag := "", pkgPath := "patchbay/line", byteOffset := 24 }]) := by kernel_rfl
theorem f_48_0 : fieldA Try.prog 48 0 = some (0, 38) := by kernel_rfl
theorem f_48_1 : fieldA Try.prog 48 1 = some (2, 3) := by kernel_rfl
theorem ag_48 : isAggA Try.prog 48 = some true := by kernel_rfl
theorem sz_48 : sizeA Try.prog 48 = some 3 := by kernel_rfl
theorem by_48 : bytesA Try.prog 48 = some 32 := by kernel_rfl
theorem ze_48 : zeroA Try.prog 48 = some [Value.int IntKind.i64 (0), Value.string ⟨#[]⟩, Value.int IntKind.i64 (0)] := by kernel_rfl
theorem pl_48 : placesA Try.prog 48 = some [(0, 2), (2, 1)] := by kernel_rfl
theorem es_48 : eszA Try.prog 48 = some 3 := by kernel_rfl
theorem u_49 : Try.prog.underlying 49 = some (TypeDesc.struct #[{ name := "LineGot", type := 38, offset := 0, embedded := true, tag := "", pkgPath := "", byteOffset := 0 }, { name := "at", type := 3, offset := 2, embedded := false, tag := "", pkgPath := "patchbay/line", byteOffset := 24 }]) := by kernel_rfl
theorem f_49_0 : fieldA Try.prog 49 0 = some (0, 38) := by kernel_rfl
theorem f_49_1 : fieldA Try.prog 49 1 = some (2, 3) := by kernel_rfl
theorem ag_49 : isAggA Try.prog 49 = some true := by kernel_rfl
theorem sz_49 : sizeA Try.prog 49 = some 3 := by kernel_rfl
theorem by_49 : bytesA Try.prog 49 = some 32 := by kernel_rfl
theorem ze_49 : zeroA Try.prog 49 = some [Value.int IntKind.i64 (0), Value.string ⟨#[]⟩, Value.int IntKind.i64 (0)] := by kernel_rfl
theorem pl_49 : placesA Try.prog 49 = some [(0, 2), (2, 1)] := by kernel_rfl
theorem es_49 : eszA Try.prog 49 = some 3 := by kernel_rfl
theorem u_50 : Try.prog.underlying 50 = some (TypeDesc.func #[] #[26] false) := by kernel_rfl
theorem ag_50 : isAggA Try.prog 50 = some false := by kernel_rfl
theorem sz_50 : sizeA Try.prog 50 = some 1 := by kernel_rfl
theorem by_50 : bytesA Try.prog 50 = some 8 := by kernel_rfl
theorem ze_50 : zeroA Try.prog 50 = some [Value.nilFunc] := by kernel_rfl
theorem es_50 : eszA Try.prog 50 = some 1 := by kernel_rfl
theorem u_51 : Try.prog.underlying 51 = some (TypeDesc.func #[9, 3] #[9] false) := by kernel_rfl
theorem ag_51 : isAggA Try.prog 51 = some false := by kernel_rfl
theorem sz_51 : sizeA Try.prog 51 = some 1 := by kernel_rfl
theorem by_51 : bytesA Try.prog 51 = some 8 := by kernel_rfl
theorem ze_51 : zeroA Try.prog 51 = some [Value.nilFunc] := by kernel_rfl
theorem es_51 : eszA Try.prog 51 = some 1 := by kernel_rfl
theorem u_52 : Try.prog.underlying 52 = some (TypeDesc.func #[44, 53] #[] false) := by kernel_rfl
theorem ag_52 : isAggA Try.prog 52 = some false := by kernel_rfl
theorem sz_52 : sizeA Try.prog 52 = some 1 := by kernel_rfl
theorem by_52 : bytesA Try.prog 52 = some 8 := by kernel_rfl
theorem ze_52 : zeroA Try.prog 52 = some [Value.nilFunc] := by kernel_rfl
theorem es_52 : eszA Try.prog 52 = some 1 := by kernel_rfl
theorem u_53 : Try.prog.underlying 53 = some (TypeDesc.func #[49, 49] #[3] false) := by kernel_rfl
theorem ag_53 : isAggA Try.prog 53 = some false := by kernel_rfl
theorem sz_53 : sizeA Try.prog 53 = some 1 := by kernel_rfl
theorem by_53 : bytesA Try.prog 53 = some 8 := by kernel_rfl
theorem ze_53 : zeroA Try.prog 53 = some [Value.nilFunc] := by kernel_rfl
theorem es_53 : eszA Try.prog 53 = some 1 := by kernel_rfl
theorem u_54 : Try.prog.underlying 54 = some (TypeDesc.slice 5) := by kernel_rfl
theorem ag_54 : isAggA Try.prog 54 = some false := by kernel_rfl
theorem sz_54 : sizeA Try.prog 54 = some 1 := by kernel_rfl
theorem by_54 : bytesA Try.prog 54 = some 24 := by kernel_rfl
theorem ze_54 : zeroA Try.prog 54 = some [Value.slice none 0 0] := by kernel_rfl
theorem es_54 : eszA Try.prog 54 = some 1 := by kernel_rfl
theorem u_55 : Try.prog.underlying 55 = some (TypeDesc.func #[44, 3, 53] #[] false) := by kernel_rfl
theorem ag_55 : isAggA Try.prog 55 = some false := by kernel_rfl
theorem sz_55 : sizeA Try.prog 55 = some 1 := by kernel_rfl
theorem by_55 : bytesA Try.prog 55 = some 8 := by kernel_rfl
theorem ze_55 : zeroA Try.prog 55 = some [Value.nilFunc] := by kernel_rfl
theorem es_55 : eszA Try.prog 55 = some 1 := by kernel_rfl
theorem u_56 : Try.prog.underlying 56 = some (TypeDesc.func #[44, 3, 3, 53] #[] false) := by kernel_rfl
theorem ag_56 : isAggA Try.prog 56 = some false := by kernel_rfl
theorem sz_56 : sizeA Try.prog 56 = some 1 := by kernel_rfl
theorem by_56 : bytesA Try.prog 56 = some 8 := by kernel_rfl
theorem ze_56 : zeroA Try.prog 56 = some [Value.nilFunc] := by kernel_rfl
theorem es_56 : eszA Try.prog 56 = some 1 := by kernel_rfl
theorem u_57 : Try.prog.underlying 57 = some (TypeDesc.func #[44, 3, 3, 3, 53] #[] false) := by kernel_rfl
theorem ag_57 : isAggA Try.prog 57 = some false := by kernel_rfl
theorem sz_57 : sizeA Try.prog 57 = some 1 := by kernel_rfl
theorem by_57 : bytesA Try.prog 57 = some 8 := by kernel_rfl
theorem ze_57 : zeroA Try.prog 57 = some [Value.nilFunc] := by kernel_rfl
theorem es_57 : eszA Try.prog 57 = some 1 := by kernel_rfl
theorem u_58 : Try.prog.underlying 58 = some (TypeDesc.int IntKind.u64) := by kernel_rfl
theorem ag_58 : isAggA Try.prog 58 = some false := by kernel_rfl
theorem sz_58 : sizeA Try.prog 58 = some 1 := by kernel_rfl
theorem by_58 : bytesA Try.prog 58 = some 8 := by kernel_rfl
theorem ze_58 : zeroA Try.prog 58 = some [Value.int IntKind.u64 (0)] := by kernel_rfl
theorem es_58 : eszA Try.prog 58 = some 1 := by kernel_rfl
theorem u_59 : Try.prog.underlying 59 = some (TypeDesc.func #[] #[9] false) := by kernel_rfl
theorem ag_59 : isAggA Try.prog 59 = some false := by kernel_rfl
theorem sz_59 : sizeA Try.prog 59 = some 1 := by kernel_rfl
theorem by_59 : bytesA Try.prog 59 = some 8 := by kernel_rfl
theorem ze_59 : zeroA Try.prog 59 = some [Value.nilFunc] := by kernel_rfl
theorem es_59 : eszA Try.prog 59 = some 1 := by kernel_rfl
theorem u_60 : Try.prog.underlying 60 = some (TypeDesc.struct #[{ name := "_interface", type := 17, offset := 0, embedded := false, tag := "", pkgPath := "runtime", byteOffset := 0 }, { name := "concrete", type := 17, offset := 1, embedded := false, tag := "", pkgPath := "runtime", byteOffset := 8 }, { name := "asserted", type := 17, offset := 2, embedded := false, tag := "", pkgPath := "runtime", byteOffset := 16 }, { name := "missingMethod", type := 9, offset := 3, embedded := false, tag := "", pkgPath := "runtime", byteOffset := 24 }]) := by kernel_rfl
theorem f_60_0 : fieldA Try.prog 60 0 = some (0, 17) := by kernel_rfl
theorem f_60_1 : fieldA Try.prog 60 1 = some (1, 17) := by kernel_rfl
theorem f_60_2 : fieldA Try.prog 60 2 = some (2, 17) := by kernel_rfl
theorem f_60_3 : fieldA Try.prog 60 3 = some (3, 9) := by kernel_rfl
theorem ag_60 : isAggA Try.prog 60 = some true := by kernel_rfl
theorem sz_60 : sizeA Try.prog 60 = some 4 := by kernel_rfl
theorem by_60 : bytesA Try.prog 60 = some 40 := by kernel_rfl
theorem ze_60 : zeroA Try.prog 60 = some [Value.pointer none, Value.pointer none, Value.pointer none, Value.string ⟨#[]⟩] := by kernel_rfl
theorem pl_60 : placesA Try.prog 60 = some [(0, 1), (1, 1), (2, 1), (3, 1)] := by kernel_rfl
theorem es_60 : eszA Try.prog 60 = some 4 := by kernel_rfl
theorem u_61 : Try.prog.underlying 61 = some (TypeDesc.struct #[{ name := "_interface", type := 17, offset := 0, embedded := false, tag := "", pkgPath := "runtime", byteOffset := 0 }, { name := "concrete", type := 17, offset := 1, embedded := false, tag := "", pkgPath := "runtime", byteOffset := 8 }, { name := "asserted", type := 17, offset := 2, embedded := false, tag := "", pkgPath := "runtime", byteOffset := 16 }, { name := "missingMethod", type := 9, offset := 3, embedded := false, tag := "", pkgPath := "runtime", byteOffset := 24 }]) := by kernel_rfl
theorem f_61_0 : fieldA Try.prog 61 0 = some (0, 17) := by kernel_rfl
theorem f_61_1 : fieldA Try.prog 61 1 = some (1, 17) := by kernel_rfl
theorem f_61_2 : fieldA Try.prog 61 2 = some (2, 17) := by kernel_rfl
theorem f_61_3 : fieldA Try.prog 61 3 = some (3, 9) := by kernel_rfl
theorem ag_61 : isAggA Try.prog 61 = some true := by kernel_rfl
theorem sz_61 : sizeA Try.prog 61 = some 4 := by kernel_rfl
theorem by_61 : bytesA Try.prog 61 = some 40 := by kernel_rfl
theorem ze_61 : zeroA Try.prog 61 = some [Value.pointer none, Value.pointer none, Value.pointer none, Value.string ⟨#[]⟩] := by kernel_rfl
theorem pl_61 : placesA Try.prog 61 = some [(0, 1), (1, 1), (2, 1), (3, 1)] := by kernel_rfl
theorem es_61 : eszA Try.prog 61 = some 4 := by kernel_rfl
theorem u_62 : Try.prog.underlying 62 = some (TypeDesc.array 0 16) := by kernel_rfl
theorem ag_62 : isAggA Try.prog 62 = some true := by kernel_rfl
theorem sz_62 : sizeA Try.prog 62 = some 0 := by kernel_rfl
theorem by_62 : bytesA Try.prog 62 = some 0 := by kernel_rfl
theorem ze_62 : zeroA Try.prog 62 = some [] := by kernel_rfl
theorem es_62 : eszA Try.prog 62 = some 1 := by kernel_rfl
theorem u_63 : Try.prog.underlying 63 = some (TypeDesc.struct #[{ name := "_", type := 62, offset := 0, embedded := false, tag := "", pkgPath := "runtime", byteOffset := 0 }]) := by kernel_rfl
theorem f_63_0 : fieldA Try.prog 63 0 = some (0, 62) := by kernel_rfl
theorem ag_63 : isAggA Try.prog 63 = some true := by kernel_rfl
theorem sz_63 : sizeA Try.prog 63 = some 0 := by kernel_rfl
theorem by_63 : bytesA Try.prog 63 = some 0 := by kernel_rfl
theorem ze_63 : zeroA Try.prog 63 = some [] := by kernel_rfl
theorem pl_63 : placesA Try.prog 63 = some [(0, 0)] := by kernel_rfl
theorem es_63 : eszA Try.prog 63 = some 0 := by kernel_rfl
theorem u_64 : Try.prog.underlying 64 = some (TypeDesc.struct #[{ name := "_", type := 62, offset := 0, embedded := false, tag := "", pkgPath := "runtime", byteOffset := 0 }]) := by kernel_rfl
theorem f_64_0 : fieldA Try.prog 64 0 = some (0, 62) := by kernel_rfl
theorem ag_64 : isAggA Try.prog 64 = some true := by kernel_rfl
theorem sz_64 : sizeA Try.prog 64 = some 0 := by kernel_rfl
theorem by_64 : bytesA Try.prog 64 = some 0 := by kernel_rfl
theorem ze_64 : zeroA Try.prog 64 = some [] := by kernel_rfl
theorem pl_64 : placesA Try.prog 64 = some [(0, 0)] := by kernel_rfl
theorem es_64 : eszA Try.prog 64 = some 0 := by kernel_rfl
theorem u_65 : Try.prog.underlying 65 = some (TypeDesc.int IntKind.u32) := by kernel_rfl
theorem ag_65 : isAggA Try.prog 65 = some false := by kernel_rfl
theorem sz_65 : sizeA Try.prog 65 = some 1 := by kernel_rfl
theorem by_65 : bytesA Try.prog 65 = some 4 := by kernel_rfl
theorem ze_65 : zeroA Try.prog 65 = some [Value.int IntKind.u32 (0)] := by kernel_rfl
theorem es_65 : eszA Try.prog 65 = some 1 := by kernel_rfl
theorem u_66 : Try.prog.underlying 66 = some (TypeDesc.int IntKind.u8) := by kernel_rfl
theorem ag_66 : isAggA Try.prog 66 = some false := by kernel_rfl
theorem sz_66 : sizeA Try.prog 66 = some 1 := by kernel_rfl
theorem by_66 : bytesA Try.prog 66 = some 1 := by kernel_rfl
theorem ze_66 : zeroA Try.prog 66 = some [Value.int IntKind.u8 (0)] := by kernel_rfl
theorem u8_66 : isU8 Try.prog 66 = true := by kernel_rfl
theorem es_66 : eszA Try.prog 66 = some 1 := by kernel_rfl
theorem u_67 : Try.prog.underlying 67 = some (TypeDesc.int IntKind.u8) := by kernel_rfl
theorem ag_67 : isAggA Try.prog 67 = some false := by kernel_rfl
theorem sz_67 : sizeA Try.prog 67 = some 1 := by kernel_rfl
theorem by_67 : bytesA Try.prog 67 = some 1 := by kernel_rfl
theorem ze_67 : zeroA Try.prog 67 = some [Value.int IntKind.u8 (0)] := by kernel_rfl
theorem u8_67 : isU8 Try.prog 67 = true := by kernel_rfl
theorem es_67 : eszA Try.prog 67 = some 1 := by kernel_rfl
theorem u_68 : Try.prog.underlying 68 = some (TypeDesc.func #[74, 74] #[4] false) := by kernel_rfl
theorem ag_68 : isAggA Try.prog 68 = some false := by kernel_rfl
theorem sz_68 : sizeA Try.prog 68 = some 1 := by kernel_rfl
theorem by_68 : bytesA Try.prog 68 = some 8 := by kernel_rfl
theorem ze_68 : zeroA Try.prog 68 = some [Value.nilFunc] := by kernel_rfl
theorem es_68 : eszA Try.prog 68 = some 1 := by kernel_rfl
theorem u_69 : Try.prog.underlying 69 = some (TypeDesc.pointer 5) := by kernel_rfl
theorem ag_69 : isAggA Try.prog 69 = some false := by kernel_rfl
theorem sz_69 : sizeA Try.prog 69 = some 1 := by kernel_rfl
theorem by_69 : bytesA Try.prog 69 = some 8 := by kernel_rfl
theorem ze_69 : zeroA Try.prog 69 = some [Value.pointer none] := by kernel_rfl
theorem es_69 : eszA Try.prog 69 = some 1 := by kernel_rfl
theorem u_70 : Try.prog.underlying 70 = some (TypeDesc.int IntKind.i32) := by kernel_rfl
theorem ag_70 : isAggA Try.prog 70 = some false := by kernel_rfl
theorem sz_70 : sizeA Try.prog 70 = some 1 := by kernel_rfl
theorem by_70 : bytesA Try.prog 70 = some 4 := by kernel_rfl
theorem ze_70 : zeroA Try.prog 70 = some [Value.int IntKind.i32 (0)] := by kernel_rfl
theorem es_70 : eszA Try.prog 70 = some 1 := by kernel_rfl
theorem u_71 : Try.prog.underlying 71 = some (TypeDesc.int IntKind.i32) := by kernel_rfl
theorem ag_71 : isAggA Try.prog 71 = some false := by kernel_rfl
theorem sz_71 : sizeA Try.prog 71 = some 1 := by kernel_rfl
theorem by_71 : bytesA Try.prog 71 = some 4 := by kernel_rfl
theorem ze_71 : zeroA Try.prog 71 = some [Value.int IntKind.i32 (0)] := by kernel_rfl
theorem es_71 : eszA Try.prog 71 = some 1 := by kernel_rfl
theorem u_72 : Try.prog.underlying 72 = some (TypeDesc.struct #[{ name := "Size_", type := 12, offset := 0, embedded := false, tag := "", pkgPath := "", byteOffset := 0 }, { name := "PtrBytes", type := 12, offset := 1, embedded := false, tag := "", pkgPath := "", byteOffset := 8 }, { name := "Hash", type := 65, offset := 2, embedded := false, tag := "", pkgPath := "", byteOffset := 16 }, { name := "TFlag", type := 66, offset := 3, embedded := false, tag := "", pkgPath := "", byteOffset := 20 }, { name := "Align_", type := 5, offset := 4, embedded := false, tag := "", pkgPath := "", byteOffset := 21 }, { name := "FieldAlign_", type := 5, offset := 5, embedded := false, tag := "", pkgPath := "", byteOffset := 22 }, { name := "Kind_", type := 67, offset := 6, embedded := false, tag := "", pkgPath := "", byteOffset := 23 }, { name := "Equal", type := 68, offset := 7, embedded := false, tag := "", pkgPath := "", byteOffset := 24 }, { name := "GCData", type := 69, offset := 8, embedded := false, tag := "", pkgPath := "", byteOffset := 32 }, { name := "Str", type := 70, offset := 9, embedded := false, tag := "", pkgPath := "", byteOffset := 40 }, { name := "PtrToThis", type := 71, offset := 10, embedded := false, tag := "", pkgPath := "", byteOffset := 44 }]) := by kernel_rfl
theorem f_72_0 : fieldA Try.prog 72 0 = some (0, 12) := by kernel_rfl
theorem f_72_1 : fieldA Try.prog 72 1 = some (1, 12) := by kernel_rfl
theorem f_72_2 : fieldA Try.prog 72 2 = some (2, 65) := by kernel_rfl
theorem f_72_3 : fieldA Try.prog 72 3 = some (3, 66) := by kernel_rfl
theorem f_72_4 : fieldA Try.prog 72 4 = some (4, 5) := by kernel_rfl
theorem f_72_5 : fieldA Try.prog 72 5 = some (5, 5) := by kernel_rfl
theorem f_72_6 : fieldA Try.prog 72 6 = some (6, 67) := by kernel_rfl
theorem f_72_7 : fieldA Try.prog 72 7 = some (7, 68) := by kernel_rfl
theorem f_72_8 : fieldA Try.prog 72 8 = some (8, 69) := by kernel_rfl
theorem f_72_9 : fieldA Try.prog 72 9 = some (9, 70) := by kernel_rfl
theorem f_72_10 : fieldA Try.prog 72 10 = some (10, 71) := by kernel_rfl
theorem ag_72 : isAggA Try.prog 72 = some true := by kernel_rfl
theorem sz_72 : sizeA Try.prog 72 = some 11 := by kernel_rfl
theorem by_72 : bytesA Try.prog 72 = some 48 := by kernel_rfl
theorem ze_72 : zeroA Try.prog 72 = some [Value.int IntKind.u64 (0), Value.int IntKind.u64 (0), Value.int IntKind.u32 (0), Value.int IntKind.u8 (0), Value.int IntKind.u8 (0), Value.int IntKind.u8 (0), Value.int IntKind.u8 (0), Value.nilFunc, Value.pointer none, Value.int IntKind.i32 (0), Value.int IntKind.i32 (0)] := by kernel_rfl
theorem pl_72 : placesA Try.prog 72 = some [(0, 1), (1, 1), (2, 1), (3, 1), (4, 1), (5, 1), (6, 1), (7, 1), (8, 1), (9, 1), (10, 1)] := by kernel_rfl
theorem es_72 : eszA Try.prog 72 = some 11 := by kernel_rfl
theorem u_73 : Try.prog.underlying 73 = some (TypeDesc.struct #[{ name := "Size_", type := 12, offset := 0, embedded := false, tag := "", pkgPath := "", byteOffset := 0 }, { name := "PtrBytes", type := 12, offset := 1, embedded := false, tag := "", pkgPath := "", byteOffset := 8 }, { name := "Hash", type := 65, offset := 2, embedded := false, tag := "", pkgPath := "", byteOffset := 16 }, { name := "TFlag", type := 66, offset := 3, embedded := false, tag := "", pkgPath := "", byteOffset := 20 }, { name := "Align_", type := 5, offset := 4, embedded := false, tag := "", pkgPath := "", byteOffset := 21 }, { name := "FieldAlign_", type := 5, offset := 5, embedded := false, tag := "", pkgPath := "", byteOffset := 22 }, { name := "Kind_", type := 67, offset := 6, embedded := false, tag := "", pkgPath := "", byteOffset := 23 }, { name := "Equal", type := 68, offset := 7, embedded := false, tag := "", pkgPath := "", byteOffset := 24 }, { name := "GCData", type := 69, offset := 8, embedded := false, tag := "", pkgPath := "", byteOffset := 32 }, { name := "Str", type := 70, offset := 9, embedded := false, tag := "", pkgPath := "", byteOffset := 40 }, { name := "PtrToThis", type := 71, offset := 10, embedded := false, tag := "", pkgPath := "", byteOffset := 44 }]) := by kernel_rfl
theorem f_73_0 : fieldA Try.prog 73 0 = some (0, 12) := by kernel_rfl
theorem f_73_1 : fieldA Try.prog 73 1 = some (1, 12) := by kernel_rfl
theorem f_73_2 : fieldA Try.prog 73 2 = some (2, 65) := by kernel_rfl
theorem f_73_3 : fieldA Try.prog 73 3 = some (3, 66) := by kernel_rfl
theorem f_73_4 : fieldA Try.prog 73 4 = some (4, 5) := by kernel_rfl
theorem f_73_5 : fieldA Try.prog 73 5 = some (5, 5) := by kernel_rfl
theorem f_73_6 : fieldA Try.prog 73 6 = some (6, 67) := by kernel_rfl
theorem f_73_7 : fieldA Try.prog 73 7 = some (7, 68) := by kernel_rfl
theorem f_73_8 : fieldA Try.prog 73 8 = some (8, 69) := by kernel_rfl
theorem f_73_9 : fieldA Try.prog 73 9 = some (9, 70) := by kernel_rfl
theorem f_73_10 : fieldA Try.prog 73 10 = some (10, 71) := by kernel_rfl
theorem ag_73 : isAggA Try.prog 73 = some true := by kernel_rfl
theorem sz_73 : sizeA Try.prog 73 = some 11 := by kernel_rfl
theorem by_73 : bytesA Try.prog 73 = some 48 := by kernel_rfl
theorem ze_73 : zeroA Try.prog 73 = some [Value.int IntKind.u64 (0), Value.int IntKind.u64 (0), Value.int IntKind.u32 (0), Value.int IntKind.u8 (0), Value.int IntKind.u8 (0), Value.int IntKind.u8 (0), Value.int IntKind.u8 (0), Value.nilFunc, Value.pointer none, Value.int IntKind.i32 (0), Value.int IntKind.i32 (0)] := by kernel_rfl
theorem pl_73 : placesA Try.prog 73 = some [(0, 1), (1, 1), (2, 1), (3, 1), (4, 1), (5, 1), (6, 1), (7, 1), (8, 1), (9, 1), (10, 1)] := by kernel_rfl
theorem es_73 : eszA Try.prog 73 = some 11 := by kernel_rfl
theorem u_74 : Try.prog.underlying 74 = some TypeDesc.unsafePointer := by kernel_rfl
theorem ag_74 : isAggA Try.prog 74 = some false := by kernel_rfl
theorem sz_74 : sizeA Try.prog 74 = some 1 := by kernel_rfl
theorem by_74 : bytesA Try.prog 74 = some 8 := by kernel_rfl
theorem ze_74 : zeroA Try.prog 74 = some [Value.pointer none] := by kernel_rfl
theorem es_74 : eszA Try.prog 74 = some 1 := by kernel_rfl
theorem tys : ((((((((((Try.prog.underlying 0 = some (TypeDesc.tuple #[])) ∧ (isAggA Try.prog 0 = some false)) ∧ ((sizeA Try.prog 0 = some 1) ∧ (bytesA Try.prog 0 = some 0))) ∧ (((zeroA Try.prog 0 = some [Value.tuple #[]]) ∧ (eszA Try.prog 0 = some 1)) ∧ ((Try.prog.underlying 1 = some (TypeDesc.func #[] #[] false)) ∧ (isAggA Try.prog 1 = some false)))) ∧ ((((sizeA Try.prog 1 = some 1) ∧ (bytesA Try.prog 1 = some 8)) ∧ ((zeroA Try.prog 1 = some [Value.nilFunc]) ∧ (eszA Try.prog 1 = some 1))) ∧ (((Try.prog.underlying 2 = some (TypeDesc.int IntKind.i64)) ∧ (isAggA Try.prog 2 = some false)) ∧ ((sizeA Try.prog 2 = some 1) ∧ ((bytesA Try.prog 2 = some 8) ∧ (zeroA Try.prog 2 = some [Value.int IntKind.i64 (0)])))))) ∧ (((((eszA Try.prog 2 = some 1) ∧ (Try.prog.underlying 3 = some (TypeDesc.int IntKind.i64))) ∧ ((isAggA Try.prog 3 = some false) ∧ (sizeA Try.prog 3 = some 1))) ∧ (((bytesA Try.prog 3 = some 8) ∧ (zeroA Try.prog 3 = some [Value.int IntKind.i64 (0)])) ∧ ((eszA Try.prog 3 = some 1) ∧ (Try.prog.underlying 4 = some TypeDesc.bool)))) ∧ ((((isAggA Try.prog 4 = some false) ∧ (sizeA Try.prog 4 = some 1)) ∧ ((bytesA Try.prog 4 = some 1) ∧ (zeroA Try.prog 4 = some [Value.bool false]))) ∧ (((isBoolT Try.prog 4 = true) ∧ (eszA Try.prog 4 = some 1)) ∧ ((Try.prog.underlying 5 = some (TypeDesc.int IntKind.u8)) ∧ ((isAggA Try.prog 5 = some false) ∧ (sizeA Try.prog 5 = some 1))))))) ∧ ((((((bytesA Try.prog 5 = some 1) ∧ (zeroA Try.prog 5 = some [Value.int IntKind.u8 (0)])) ∧ ((isU8 Try.prog 5 = true) ∧ (eszA Try.prog 5 = some 1))) ∧ (((Try.prog.underlying 6 = some (TypeDesc.int IntKind.u8)) ∧ (isAggA Try.prog 6 = some false)) ∧ ((sizeA Try.prog 6 = some 1) ∧ (bytesA Try.prog 6 = some 1)))) ∧ ((((zeroA Try.prog 6 = some [Value.int IntKind.u8 (0)]) ∧ (isU8 Try.prog 6 = true)) ∧ ((eszA Try.prog 6 = some 1) ∧ (Try.prog.underlying 7 = some (TypeDesc.struct #[{ name := "x", type := 2, offset := 0, embedded := false, tag := "", pkgPath := "runtime", byteOffset := 0 }, { name := "y", type := 3, offset := 1, embedded := false, tag := "", pkgPath := "runtime", byteOffset := 8 }, { name := "signed", type := 4, offset := 2, embedded := false, tag := "", pkgPath := "runtime", byteOffset := 16 }, { name := "code", type := 6, offset := 3, embedded := false, tag := "", pkgPath := "runtime", byteOffset := 17 }])))) ∧ (((fieldA Try.prog 7 0 = some (0, 2)) ∧ (fieldA Try.prog 7 1 = some (1, 3))) ∧ ((fieldA Try.prog 7 2 = some (2, 4)) ∧ ((fieldA Try.prog 7 3 = some (3, 6)) ∧ (isAggA Try.prog 7 = some true)))))) ∧ (((((sizeA Try.prog 7 = some 4) ∧ (bytesA Try.prog 7 = some 24)) ∧ ((zeroA Try.prog 7 = some [Value.int IntKind.i64 (0), Value.int IntKind.i64 (0), Value.bool false, Value.int IntKind.u8 (0)]) ∧ (placesA Try.prog 7 = some [(0, 1), (1, 1), (2, 1), (3, 1)]))) ∧ (((eszA Try.prog 7 = some 4) ∧ (Try.prog.underlying 8 = some (TypeDesc.struct #[{ name := "x", type := 2, offset := 0, embedded := false, tag := "", pkgPath := "runtime", byteOffset := 0 }, { name := "y", type := 3, offset := 1, embedded := false, tag := "", pkgPath := "runtime", byteOffset := 8 }, { name := "signed", type := 4, offset := 2, embedded := false, tag := "", pkgPath := "runtime", byteOffset := 16 }, { name := "code", type := 6, offset := 3, embedded := false, tag := "", pkgPath := "runtime", byteOffset := 17 }]))) ∧ ((fieldA Try.prog 8 0 = some (0, 2)) ∧ (fieldA Try.prog 8 1 = some (1, 3))))) ∧ ((((fieldA Try.prog 8 2 = some (2, 4)) ∧ (fieldA Try.prog 8 3 = some (3, 6))) ∧ ((isAggA Try.prog 8 = some true) ∧ (sizeA Try.prog 8 = some 4))) ∧ (((bytesA Try.prog 8 = some 24) ∧ (zeroA Try.prog 8 = some [Value.int IntKind.i64 (0), Value.int IntKind.i64 (0), Value.bool false, Value.int IntKind.u8 (0)])) ∧ ((placesA Try.prog 8 = some [(0, 1), (1, 1), (2, 1), (3, 1)]) ∧ ((eszA Try.prog 8 = some 4) ∧ (Try.prog.underlying 9 = some TypeDesc.string)))))))) ∧ (((((((isAggA Try.prog 9 = some false) ∧ (sizeA Try.prog 9 = some 1)) ∧ ((bytesA Try.prog 9 = some 16) ∧ (zeroA Try.prog 9 = some [Value.string ⟨#[]⟩]))) ∧ (((eszA Try.prog 9 = some 1) ∧ (Try.prog.underlying 10 = some TypeDesc.string)) ∧ ((isAggA Try.prog 10 = some false) ∧ (sizeA Try.prog 10 = some 1)))) ∧ ((((bytesA Try.prog 10 = some 16) ∧ (zeroA Try.prog 10 = some [Value.string ⟨#[]⟩])) ∧ ((eszA Try.prog 10 = some 1) ∧ (Try.prog.underlying 11 = some TypeDesc.string))) ∧ (((isAggA Try.prog 11 = some false) ∧ (sizeA Try.prog 11 = some 1)) ∧ ((bytesA Try.prog 11 = some 16) ∧ ((zeroA Try.prog 11 = some [Value.string ⟨#[]⟩]) ∧ (eszA Try.prog 11 = some 1)))))) ∧ (((((Try.prog.underlying 12 = some (TypeDesc.int IntKind.u64)) ∧ (isAggA Try.prog 12 = some false)) ∧ ((sizeA Try.prog 12 = some 1) ∧ (bytesA Try.prog 12 = some 8))) ∧ (((zeroA Try.prog 12 = some [Value.int IntKind.u64 (0)]) ∧ (eszA Try.prog 12 = some 1)) ∧ ((Try.prog.underlying 13 = some (TypeDesc.struct #[{ name := "msg", type := 9, offset := 0, embedded := false, tag := "", pkgPath := "runtime", byteOffset := 0 }, { name := "addr", type := 12, offset := 1, embedded := false, tag := "", pkgPath := "runtime", byteOffset := 16 }])) ∧ (fieldA Try.prog 13 0 = some (0, 9))))) ∧ ((((fieldA Try.prog 13 1 = some (1, 12)) ∧ (isAggA Try.prog 13 = some true)) ∧ ((sizeA Try.prog 13 = some 2) ∧ (bytesA Try.prog 13 = some 24))) ∧ (((zeroA Try.prog 13 = some [Value.string ⟨#[]⟩, Value.int IntKind.u64 (0)]) ∧ (placesA Try.prog 13 = some [(0, 1), (1, 1)])) ∧ ((eszA Try.prog 13 = some 2) ∧ ((Try.prog.underlying 14 = some (TypeDesc.struct #[{ name := "msg", type := 9, offset := 0, embedded := false, tag := "", pkgPath := "runtime", byteOffset := 0 }, { name := "addr", type := 12, offset := 1, embedded := false, tag := "", pkgPath := "runtime", byteOffset := 16 }])) ∧ (fieldA Try.prog 14 0 = some (0, 9)))))))) ∧ ((((((fieldA Try.prog 14 1 = some (1, 12)) ∧ (isAggA Try.prog 14 = some true)) ∧ ((sizeA Try.prog 14 = some 2) ∧ (bytesA Try.prog 14 = some 24))) ∧ (((zeroA Try.prog 14 = some [Value.string ⟨#[]⟩, Value.int IntKind.u64 (0)]) ∧ (placesA Try.prog 14 = some [(0, 1), (1, 1)])) ∧ ((eszA Try.prog 14 = some 2) ∧ (Try.prog.underlying 15 = some (TypeDesc.pointer 61))))) ∧ ((((isAggA Try.prog 15 = some false) ∧ (sizeA Try.prog 15 = some 1)) ∧ ((bytesA Try.prog 15 = some 8) ∧ (zeroA Try.prog 15 = some [Value.pointer none]))) ∧ (((eszA Try.prog 15 = some 1) ∧ (Try.prog.underlying 16 = some (TypeDesc.pointer 64))) ∧ ((isAggA Try.prog 16 = some false) ∧ ((sizeA Try.prog 16 = some 1) ∧ (bytesA Try.prog 16 = some 8)))))) ∧ (((((zeroA Try.prog 16 = some [Value.pointer none]) ∧ (eszA Try.prog 16 = some 1)) ∧ ((Try.prog.underlying 17 = some (TypeDesc.pointer 73)) ∧ (isAggA Try.prog 17 = some false))) ∧ (((sizeA Try.prog 17 = some 1) ∧ (bytesA Try.prog 17 = some 8)) ∧ ((zeroA Try.prog 17 = some [Value.pointer none]) ∧ (eszA Try.prog 17 = some 1)))) ∧ ((((Try.prog.underlying 18 = some (TypeDesc.struct #[{ name := "typ", type := 17, offset := 0, embedded := false, tag := "", pkgPath := "internal/runtime/maps", byteOffset := 0 }])) ∧ (fieldA Try.prog 18 0 = some (0, 17))) ∧ ((isAggA Try.prog 18 = some true) ∧ (sizeA Try.prog 18 = some 1))) ∧ (((bytesA Try.prog 18 = some 8) ∧ (zeroA Try.prog 18 = some [Value.pointer none])) ∧ ((placesA Try.prog 18 = some [(0, 1)]) ∧ ((eszA Try.prog 18 = some 1) ∧ (Try.prog.underlying 19 = some (TypeDesc.struct #[{ name := "typ", type := 17, offset := 0, embedded := false, tag := "", pkgPath := "internal/runtime/maps", byteOffset := 0 }])))))))))) ∧ ((((((((fieldA Try.prog 19 0 = some (0, 17)) ∧ (isAggA Try.prog 19 = some true)) ∧ ((sizeA Try.prog 19 = some 1) ∧ (bytesA Try.prog 19 = some 8))) ∧ (((zeroA Try.prog 19 = some [Value.pointer none]) ∧ (placesA Try.prog 19 = some [(0, 1)])) ∧ ((eszA Try.prog 19 = some 1) ∧ (Try.prog.underlying 20 = some (TypeDesc.interface #[]))))) ∧ ((((isAggA Try.prog 20 = some false) ∧ (sizeA Try.prog 20 = some 1)) ∧ ((bytesA Try.prog 20 = some 16) ∧ (zeroA Try.prog 20 = some [Value.nilIface]))) ∧ (((eszA Try.prog 20 = some 1) ∧ (Try.prog.underlying 21 = some (TypeDesc.int IntKind.i32))) ∧ ((isAggA Try.prog 21 = some false) ∧ ((sizeA Try.prog 21 = some 1) ∧ (bytesA Try.prog 21 = some 4)))))) ∧ (((((zeroA Try.prog 21 = some [Value.int IntKind.i32 (0)]) ∧ (eszA Try.prog 21 = some 1)) ∧ ((Try.prog.underlying 22 = some (TypeDesc.slice 26)) ∧ (isAggA Try.prog 22 = some false))) ∧ (((sizeA Try.prog 22 = some 1) ∧ (bytesA Try.prog 22 = some 24)) ∧ ((zeroA Try.prog 22 = some [Value.slice none 0 0]) ∧ (eszA Try.prog 22 = some 1)))) ∧ ((((Try.prog.underlying 23 = some (TypeDesc.slice 9)) ∧ (isAggA Try.prog 23 = some false)) ∧ ((sizeA Try.prog 23 = some 1) ∧ (bytesA Try.prog 23 = some 24))) ∧ (((zeroA Try.prog 23 = some [Value.slice none 0 0]) ∧ (eszA Try.prog 23 = some 1)) ∧ ((Try.prog.underlying 24 = some (TypeDesc.func #[22] #[22] false)) ∧ ((isAggA Try.prog 24 = some false) ∧ (sizeA Try.prog 24 = some 1))))))) ∧ ((((((bytesA Try.prog 24 = some 8) ∧ (zeroA Try.prog 24 = some [Value.nilFunc])) ∧ ((eszA Try.prog 24 = some 1) ∧ (Try.prog.underlying 25 = some (TypeDesc.struct #[{ name := "Kind", type := 3, offset := 0, embedded := false, tag := "", pkgPath := "", byteOffset := 0 }, { name := "N", type := 3, offset := 1, embedded := false, tag := "", pkgPath := "", byteOffset := 8 }])))) ∧ (((fieldA Try.prog 25 0 = some (0, 3)) ∧ (fieldA Try.prog 25 1 = some (1, 3))) ∧ ((isAggA Try.prog 25 = some true) ∧ (sizeA Try.prog 25 = some 2)))) ∧ ((((bytesA Try.prog 25 = some 16) ∧ (zeroA Try.prog 25 = some [Value.int IntKind.i64 (0), Value.int IntKind.i64 (0)])) ∧ ((placesA Try.prog 25 = some [(0, 1), (1, 1)]) ∧ (eszA Try.prog 25 = some 2))) ∧ (((Try.prog.underlying 26 = some (TypeDesc.struct #[{ name := "Kind", type := 3, offset := 0, embedded := false, tag := "", pkgPath := "", byteOffset := 0 }, { name := "N", type := 3, offset := 1, embedded := false, tag := "", pkgPath := "", byteOffset := 8 }])) ∧ (fieldA Try.prog 26 0 = some (0, 3))) ∧ ((fieldA Try.prog 26 1 = some (1, 3)) ∧ ((isAggA Try.prog 26 = some true) ∧ (sizeA Try.prog 26 = some 2)))))) ∧ (((((bytesA Try.prog 26 = some 16) ∧ (zeroA Try.prog 26 = some [Value.int IntKind.i64 (0), Value.int IntKind.i64 (0)])) ∧ ((placesA Try.prog 26 = some [(0, 1), (1, 1)]) ∧ (eszA Try.prog 26 = some 2))) ∧ (((Try.prog.underlying 27 = some (TypeDesc.pointer 46)) ∧ (isAggA Try.prog 27 = some false)) ∧ ((sizeA Try.prog 27 = some 1) ∧ (bytesA Try.prog 27 = some 8)))) ∧ ((((zeroA Try.prog 27 = some [Value.pointer none]) ∧ (eszA Try.prog 27 = some 1)) ∧ ((Try.prog.underlying 28 = some (TypeDesc.int IntKind.i64)) ∧ (isAggA Try.prog 28 = some false))) ∧ (((sizeA Try.prog 28 = some 1) ∧ (bytesA Try.prog 28 = some 8)) ∧ ((zeroA Try.prog 28 = some [Value.int IntKind.i64 (0)]) ∧ ((eszA Try.prog 28 = some 1) ∧ (Try.prog.underlying 29 = some (TypeDesc.tuple #[27, 28]))))))))) ∧ (((((((isAggA Try.prog 29 = some false) ∧ (sizeA Try.prog 29 = some 1)) ∧ ((bytesA Try.prog 29 = some 0) ∧ (zeroA Try.prog 29 = some [Value.tuple #[Value.pointer none, Value.int IntKind.i64 (0)]]))) ∧ (((eszA Try.prog 29 = some 1) ∧ (Try.prog.underlying 30 = some (TypeDesc.func #[3, 22, 4] #[27, 28] false))) ∧ ((isAggA Try.prog 30 = some false) ∧ (sizeA Try.prog 30 = some 1)))) ∧ ((((bytesA Try.prog 30 = some 8) ∧ (zeroA Try.prog 30 = some [Value.nilFunc])) ∧ ((eszA Try.prog 30 = some 1) ∧ (Try.prog.underlying 31 = some (TypeDesc.func #[3, 3, 3] #[3] false)))) ∧ (((isAggA Try.prog 31 = some false) ∧ (sizeA Try.prog 31 = some 1)) ∧ ((bytesA Try.prog 31 = some 8) ∧ ((zeroA Try.prog 31 = some [Value.nilFunc]) ∧ (eszA Try.prog 31 = some 1)))))) ∧ (((((Try.prog.underlying 32 = some (TypeDesc.func #[] #[4] false)) ∧ (isAggA Try.prog 32 = some false)) ∧ ((sizeA Try.prog 32 = some 1) ∧ (bytesA Try.prog 32 = some 8))) ∧ (((zeroA Try.prog 32 = some [Value.nilFunc]) ∧ (eszA Try.prog 32 = some 1)) ∧ ((Try.prog.underlying 33 = some (TypeDesc.func #[3, 9, 3] #[28] false)) ∧ (isAggA Try.prog 33 = some false)))) ∧ ((((sizeA Try.prog 33 = some 1) ∧ (bytesA Try.prog 33 = some 8)) ∧ ((zeroA Try.prog 33 = some [Value.nilFunc]) ∧ (eszA Try.prog 33 = some 1))) ∧ (((Try.prog.underlying 34 = some (TypeDesc.slice 38)) ∧ (isAggA Try.prog 34 = some false)) ∧ ((sizeA Try.prog 34 = some 1) ∧ ((bytesA Try.prog 34 = some 24) ∧ (zeroA Try.prog 34 = some [Value.slice none 0 0]))))))) ∧ ((((((eszA Try.prog 34 = some 1) ∧ (Try.prog.underlying 35 = some (TypeDesc.tuple #[34, 28]))) ∧ ((isAggA Try.prog 35 = some false) ∧ (sizeA Try.prog 35 = some 1))) ∧ (((bytesA Try.prog 35 = some 0) ∧ (zeroA Try.prog 35 = some [Value.tuple #[Value.slice none 0 0, Value.int IntKind.i64 (0)]])) ∧ ((eszA Try.prog 35 = some 1) ∧ (Try.prog.underlying 36 = some (TypeDesc.func #[3] #[34, 28] false))))) ∧ ((((isAggA Try.prog 36 = some false) ∧ (sizeA Try.prog 36 = some 1)) ∧ ((bytesA Try.prog 36 = some 8) ∧ (zeroA Try.prog 36 = some [Value.nilFunc]))) ∧ (((eszA Try.prog 36 = some 1) ∧ (Try.prog.underlying 37 = some (TypeDesc.struct #[{ name := "End", type := 3, offset := 0, embedded := false, tag := "", pkgPath := "", byteOffset := 0 }, { name := "Body", type := 9, offset := 1, embedded := false, tag := "", pkgPath := "", byteOffset := 8 }]))) ∧ ((fieldA Try.prog 37 0 = some (0, 3)) ∧ ((fieldA Try.prog 37 1 = some (1, 9)) ∧ (isAggA Try.prog 37 = some true)))))) ∧ (((((sizeA Try.prog 37 = some 2) ∧ (bytesA Try.prog 37 = some 24)) ∧ ((zeroA Try.prog 37 = some [Value.int IntKind.i64 (0), Value.string ⟨#[]⟩]) ∧ (placesA Try.prog 37 = some [(0, 1), (1, 1)]))) ∧ (((eszA Try.prog 37 = some 2) ∧ (Try.prog.underlying 38 = some (TypeDesc.struct #[{ name := "End", type := 3, offset := 0, embedded := false, tag := "", pkgPath := "", byteOffset := 0 }, { name := "Body", type := 9, offset := 1, embedded := false, tag := "", pkgPath := "", byteOffset := 8 }]))) ∧ ((fieldA Try.prog 38 0 = some (0, 3)) ∧ ((fieldA Try.prog 38 1 = some (1, 9)) ∧ (isAggA Try.prog 38 = some true))))) ∧ ((((sizeA Try.prog 38 = some 2) ∧ (bytesA Try.prog 38 = some 24)) ∧ ((zeroA Try.prog 38 = some [Value.int IntKind.i64 (0), Value.string ⟨#[]⟩]) ∧ (placesA Try.prog 38 = some [(0, 1), (1, 1)]))) ∧ (((eszA Try.prog 38 = some 2) ∧ (Try.prog.underlying 39 = some (TypeDesc.func #[] #[3] false))) ∧ ((isAggA Try.prog 39 = some false) ∧ ((sizeA Try.prog 39 = some 1) ∧ (bytesA Try.prog 39 = some 8)))))))))) ∧ (((((((((zeroA Try.prog 39 = some [Value.nilFunc]) ∧ (eszA Try.prog 39 = some 1)) ∧ ((Try.prog.underlying 40 = some (TypeDesc.func #[3, 22, 23] #[4] false)) ∧ (isAggA Try.prog 40 = some false))) ∧ (((sizeA Try.prog 40 = some 1) ∧ (bytesA Try.prog 40 = some 8)) ∧ ((zeroA Try.prog 40 = some [Value.nilFunc]) ∧ (eszA Try.prog 40 = some 1)))) ∧ ((((Try.prog.underlying 41 = some (TypeDesc.func #[4] #[] false)) ∧ (isAggA Try.prog 41 = some false)) ∧ ((sizeA Try.prog 41 = some 1) ∧ (bytesA Try.prog 41 = some 8))) ∧ (((zeroA Try.prog 41 = some [Value.nilFunc]) ∧ (eszA Try.prog 41 = some 1)) ∧ ((Try.prog.underlying 42 = some (TypeDesc.func #[3, 9, 9] #[4] false)) ∧ ((isAggA Try.prog 42 = some false) ∧ (sizeA Try.prog 42 = some 1)))))) ∧ (((((bytesA Try.prog 42 = some 8) ∧ (zeroA Try.prog 42 = some [Value.nilFunc])) ∧ ((eszA Try.prog 42 = some 1) ∧ (Try.prog.underlying 43 = some (TypeDesc.func #[22] #[28] false)))) ∧ (((isAggA Try.prog 43 = some false) ∧ (sizeA Try.prog 43 = some 1)) ∧ ((bytesA Try.prog 43 = some 8) ∧ (zeroA Try.prog 43 = some [Value.nilFunc])))) ∧ ((((eszA Try.prog 43 = some 1) ∧ (Try.prog.underlying 44 = some (TypeDesc.slice 49))) ∧ ((isAggA Try.prog 44 = some false) ∧ (sizeA Try.prog 44 = some 1))) ∧ (((bytesA Try.prog 44 = some 24) ∧ (zeroA Try.prog 44 = some [Value.slice none 0 0])) ∧ ((eszA Try.prog 44 = some 1) ∧ ((Try.prog.underlying 45 = some (TypeDesc.struct #[{ name := "delay", type := 3, offset := 0, embedded := false, tag := "", pkgPath := "patchbay/line", byteOffset := 0 }, { name := "now", type := 3, offset := 1, embedded := false, tag := "", pkgPath := "patchbay/line", byteOffset := 8 }, { name := "fates", type := 22, offset := 2, embedded := false, tag := "", pkgPath := "patchbay/line", byteOffset := 16 }, { name := "again", type := 4, offset := 3, embedded := false, tag := "", pkgPath := "patchbay/line", byteOffset := 40 }, { name := "up", type := 4, offset := 4, embedded := false, tag := "", pkgPath := "patchbay/line", byteOffset := 41 }, { name := "next", type := 3, offset := 5, embedded := false, tag := "", pkgPath := "patchbay/line", byteOffset := 48 }, { name := "flying", type := 44, offset := 6, embedded := false, tag := "", pkgPath := "patchbay/line", byteOffset := 56 }])) ∧ (fieldA Try.prog 45 0 = some (0, 3)))))))) ∧ ((((((fieldA Try.prog 45 1 = some (1, 3)) ∧ (fieldA Try.prog 45 2 = some (2, 22))) ∧ ((fieldA Try.prog 45 3 = some (3, 4)) ∧ (fieldA Try.prog 45 4 = some (4, 4)))) ∧ (((fieldA Try.prog 45 5 = some (5, 3)) ∧ (fieldA Try.prog 45 6 = some (6, 44))) ∧ ((isAggA Try.prog 45 = some true) ∧ (sizeA Try.prog 45 = some 7)))) ∧ ((((bytesA Try.prog 45 = some 80) ∧ (zeroA Try.prog 45 = some [Value.int IntKind.i64 (0), Value.int IntKind.i64 (0), Value.slice none 0 0, Value.bool false, Value.bool false, Value.int IntKind.i64 (0), Value.slice none 0 0])) ∧ ((placesA Try.prog 45 = some [(0, 1), (1, 1), (2, 1), (3, 1), (4, 1), (5, 1), (6, 1)]) ∧ (eszA Try.prog 45 = some 7))) ∧ (((Try.prog.underlying 46 = some (TypeDesc.struct #[{ name := "delay", type := 3, offset := 0, embedded := false, tag := "", pkgPath := "patchbay/line", byteOffset := 0 }, { name := "now", type := 3, offset := 1, embedded := false, tag := "", pkgPath := "patchbay/line", byteOffset := 8 }, { name := "fates", type := 22, offset := 2, embedded := false, tag := "", pkgPath := "patchbay/line", byteOffset := 16 }, { name := "again", type := 4, offset := 3, embedded := false, tag := "", pkgPath := "patchbay/line", byteOffset := 40 }, { name := "up", type := 4, offset := 4, embedded := false, tag := "", pkgPath := "patchbay/line", byteOffset := 41 }, { name := "next", type := 3, offset := 5, embedded := false, tag := "", pkgPath := "patchbay/line", byteOffset := 48 }, { name := "flying", type := 44, offset := 6, embedded := false, tag := "", pkgPath := "patchbay/line", byteOffset := 56 }])) ∧ (fieldA Try.prog 46 0 = some (0, 3))) ∧ ((fieldA Try.prog 46 1 = some (1, 3)) ∧ ((fieldA Try.prog 46 2 = some (2, 22)) ∧ (fieldA Try.prog 46 3 = some (3, 4))))))) ∧ (((((fieldA Try.prog 46 4 = some (4, 4)) ∧ (fieldA Try.prog 46 5 = some (5, 3))) ∧ ((fieldA Try.prog 46 6 = some (6, 44)) ∧ (isAggA Try.prog 46 = some true))) ∧ (((sizeA Try.prog 46 = some 7) ∧ (bytesA Try.prog 46 = some 80)) ∧ ((zeroA Try.prog 46 = some [Value.int IntKind.i64 (0), Value.int IntKind.i64 (0), Value.slice none 0 0, Value.bool false, Value.bool false, Value.int IntKind.i64 (0), Value.slice none 0 0]) ∧ (placesA Try.prog 46 = some [(0, 1), (1, 1), (2, 1), (3, 1), (4, 1), (5, 1), (6, 1)])))) ∧ ((((eszA Try.prog 46 = some 7) ∧ (Try.prog.underlying 47 = some (TypeDesc.func #[3] #[28] false))) ∧ ((isAggA Try.prog 47 = some false) ∧ (sizeA Try.prog 47 = some 1))) ∧ (((bytesA Try.prog 47 = some 8) ∧ (zeroA Try.prog 47 = some [Value.nilFunc])) ∧ ((eszA Try.prog 47 = some 1) ∧ ((Try.prog.underlying 48 = some (TypeDesc.struct #[{ name := "LineGot", type := 38, offset := 0, embedded := true, tag := "", pkgPath := "", byteOffset := 0 }, { name := "at", type := 3, offset := 2, embedded := false, tag := "", pkgPath := "patchbay/line", byteOffset := 24 }])) ∧ (fieldA Try.prog 48 0 = some (0, 38))))))))) ∧ (((((((fieldA Try.prog 48 1 = some (2, 3)) ∧ (isAggA Try.prog 48 = some true)) ∧ ((sizeA Try.prog 48 = some 3) ∧ (bytesA Try.prog 48 = some 32))) ∧ (((zeroA Try.prog 48 = some [Value.int IntKind.i64 (0), Value.string ⟨#[]⟩, Value.int IntKind.i64 (0)]) ∧ (placesA Try.prog 48 = some [(0, 2), (2, 1)])) ∧ ((eszA Try.prog 48 = some 3) ∧ (Try.prog.underlying 49 = some (TypeDesc.struct #[{ name := "LineGot", type := 38, offset := 0, embedded := true, tag := "", pkgPath := "", byteOffset := 0 }, { name := "at", type := 3, offset := 2, embedded := false, tag := "", pkgPath := "patchbay/line", byteOffset := 24 }]))))) ∧ ((((fieldA Try.prog 49 0 = some (0, 38)) ∧ (fieldA Try.prog 49 1 = some (2, 3))) ∧ ((isAggA Try.prog 49 = some true) ∧ (sizeA Try.prog 49 = some 3))) ∧ (((bytesA Try.prog 49 = some 32) ∧ (zeroA Try.prog 49 = some [Value.int IntKind.i64 (0), Value.string ⟨#[]⟩, Value.int IntKind.i64 (0)])) ∧ ((placesA Try.prog 49 = some [(0, 2), (2, 1)]) ∧ ((eszA Try.prog 49 = some 3) ∧ (Try.prog.underlying 50 = some (TypeDesc.func #[] #[26] false))))))) ∧ (((((isAggA Try.prog 50 = some false) ∧ (sizeA Try.prog 50 = some 1)) ∧ ((bytesA Try.prog 50 = some 8) ∧ (zeroA Try.prog 50 = some [Value.nilFunc]))) ∧ (((eszA Try.prog 50 = some 1) ∧ (Try.prog.underlying 51 = some (TypeDesc.func #[9, 3] #[9] false))) ∧ ((isAggA Try.prog 51 = some false) ∧ (sizeA Try.prog 51 = some 1)))) ∧ ((((bytesA Try.prog 51 = some 8) ∧ (zeroA Try.prog 51 = some [Value.nilFunc])) ∧ ((eszA Try.prog 51 = some 1) ∧ (Try.prog.underlying 52 = some (TypeDesc.func #[44, 53] #[] false)))) ∧ (((isAggA Try.prog 52 = some false) ∧ (sizeA Try.prog 52 = some 1)) ∧ ((bytesA Try.prog 52 = some 8) ∧ ((zeroA Try.prog 52 = some [Value.nilFunc]) ∧ (eszA Try.prog 52 = some 1))))))) ∧ ((((((Try.prog.underlying 53 = some (TypeDesc.func #[49, 49] #[3] false)) ∧ (isAggA Try.prog 53 = some false)) ∧ ((sizeA Try.prog 53 = some 1) ∧ (bytesA Try.prog 53 = some 8))) ∧ (((zeroA Try.prog 53 = some [Value.nilFunc]) ∧ (eszA Try.prog 53 = some 1)) ∧ ((Try.prog.underlying 54 = some (TypeDesc.slice 5)) ∧ (isAggA Try.prog 54 = some false)))) ∧ ((((sizeA Try.prog 54 = some 1) ∧ (bytesA Try.prog 54 = some 24)) ∧ ((zeroA Try.prog 54 = some [Value.slice none 0 0]) ∧ (eszA Try.prog 54 = some 1))) ∧ (((Try.prog.underlying 55 = some (TypeDesc.func #[44, 3, 53] #[] false)) ∧ (isAggA Try.prog 55 = some false)) ∧ ((sizeA Try.prog 55 = some 1) ∧ ((bytesA Try.prog 55 = some 8) ∧ (zeroA Try.prog 55 = some [Value.nilFunc])))))) ∧ (((((eszA Try.prog 55 = some 1) ∧ (Try.prog.underlying 56 = some (TypeDesc.func #[44, 3, 3, 53] #[] false))) ∧ ((isAggA Try.prog 56 = some false) ∧ (sizeA Try.prog 56 = some 1))) ∧ (((bytesA Try.prog 56 = some 8) ∧ (zeroA Try.prog 56 = some [Value.nilFunc])) ∧ ((eszA Try.prog 56 = some 1) ∧ ((Try.prog.underlying 57 = some (TypeDesc.func #[44, 3, 3, 3, 53] #[] false)) ∧ (isAggA Try.prog 57 = some false))))) ∧ ((((sizeA Try.prog 57 = some 1) ∧ (bytesA Try.prog 57 = some 8)) ∧ ((zeroA Try.prog 57 = some [Value.nilFunc]) ∧ (eszA Try.prog 57 = some 1))) ∧ (((Try.prog.underlying 58 = some (TypeDesc.int IntKind.u64)) ∧ (isAggA Try.prog 58 = some false)) ∧ ((sizeA Try.prog 58 = some 1) ∧ ((bytesA Try.prog 58 = some 8) ∧ (zeroA Try.prog 58 = some [Value.int IntKind.u64 (0)]))))))))) ∧ ((((((((eszA Try.prog 58 = some 1) ∧ (Try.prog.underlying 59 = some (TypeDesc.func #[] #[9] false))) ∧ ((isAggA Try.prog 59 = some false) ∧ (sizeA Try.prog 59 = some 1))) ∧ (((bytesA Try.prog 59 = some 8) ∧ (zeroA Try.prog 59 = some [Value.nilFunc])) ∧ ((eszA Try.prog 59 = some 1) ∧ (Try.prog.underlying 60 = some (TypeDesc.struct #[{ name := "_interface", type := 17, offset := 0, embedded := false, tag := "", pkgPath := "runtime", byteOffset := 0 }, { name := "concrete", type := 17, offset := 1, embedded := false, tag := "", pkgPath := "runtime", byteOffset := 8 }, { name := "asserted", type := 17, offset := 2, embedded := false, tag := "", pkgPath := "runtime", byteOffset := 16 }, { name := "missingMethod", type := 9, offset := 3, embedded := false, tag := "", pkgPath := "runtime", byteOffset := 24 }]))))) ∧ ((((fieldA Try.prog 60 0 = some (0, 17)) ∧ (fieldA Try.prog 60 1 = some (1, 17))) ∧ ((fieldA Try.prog 60 2 = some (2, 17)) ∧ (fieldA Try.prog 60 3 = some (3, 9)))) ∧ (((isAggA Try.prog 60 = some true) ∧ (sizeA Try.prog 60 = some 4)) ∧ ((bytesA Try.prog 60 = some 40) ∧ ((zeroA Try.prog 60 = some [Value.pointer none, Value.pointer none, Value.pointer none, Value.string ⟨#[]⟩]) ∧ (placesA Try.prog 60 = some [(0, 1), (1, 1), (2, 1), (3, 1)])))))) ∧ (((((eszA Try.prog 60 = some 4) ∧ (Try.prog.underlying 61 = some (TypeDesc.struct #[{ name := "_interface", type := 17, offset := 0, embedded := false, tag := "", pkgPath := "runtime", byteOffset := 0 }, { name := "concrete", type := 17, offset := 1, embedded := false, tag := "", pkgPath := "runtime", byteOffset := 8 }, { name := "asserted", type := 17, offset := 2, embedded := false, tag := "", pkgPath := "runtime", byteOffset := 16 }, { name := "missingMethod", type := 9, offset := 3, embedded := false, tag := "", pkgPath := "runtime", byteOffset := 24 }]))) ∧ ((fieldA Try.prog 61 0 = some (0, 17)) ∧ (fieldA Try.prog 61 1 = some (1, 17)))) ∧ (((fieldA Try.prog 61 2 = some (2, 17)) ∧ (fieldA Try.prog 61 3 = some (3, 9))) ∧ ((isAggA Try.prog 61 = some true) ∧ (sizeA Try.prog 61 = some 4)))) ∧ ((((bytesA Try.prog 61 = some 40) ∧ (zeroA Try.prog 61 = some [Value.pointer none, Value.pointer none, Value.pointer none, Value.string ⟨#[]⟩])) ∧ ((placesA Try.prog 61 = some [(0, 1), (1, 1), (2, 1), (3, 1)]) ∧ (eszA Try.prog 61 = some 4))) ∧ (((Try.prog.underlying 62 = some (TypeDesc.array 0 16)) ∧ (isAggA Try.prog 62 = some true)) ∧ ((sizeA Try.prog 62 = some 0) ∧ ((bytesA Try.prog 62 = some 0) ∧ (zeroA Try.prog 62 = some []))))))) ∧ ((((((eszA Try.prog 62 = some 1) ∧ (Try.prog.underlying 63 = some (TypeDesc.struct #[{ name := "_", type := 62, offset := 0, embedded := false, tag := "", pkgPath := "runtime", byteOffset := 0 }]))) ∧ ((fieldA Try.prog 63 0 = some (0, 62)) ∧ (isAggA Try.prog 63 = some true))) ∧ (((sizeA Try.prog 63 = some 0) ∧ (bytesA Try.prog 63 = some 0)) ∧ ((zeroA Try.prog 63 = some []) ∧ (placesA Try.prog 63 = some [(0, 0)])))) ∧ ((((eszA Try.prog 63 = some 0) ∧ (Try.prog.underlying 64 = some (TypeDesc.struct #[{ name := "_", type := 62, offset := 0, embedded := false, tag := "", pkgPath := "runtime", byteOffset := 0 }]))) ∧ ((fieldA Try.prog 64 0 = some (0, 62)) ∧ (isAggA Try.prog 64 = some true))) ∧ (((sizeA Try.prog 64 = some 0) ∧ (bytesA Try.prog 64 = some 0)) ∧ ((zeroA Try.prog 64 = some []) ∧ ((placesA Try.prog 64 = some [(0, 0)]) ∧ (eszA Try.prog 64 = some 0)))))) ∧ (((((Try.prog.underlying 65 = some (TypeDesc.int IntKind.u32)) ∧ (isAggA Try.prog 65 = some false)) ∧ ((sizeA Try.prog 65 = some 1) ∧ (bytesA Try.prog 65 = some 4))) ∧ (((zeroA Try.prog 65 = some [Value.int IntKind.u32 (0)]) ∧ (eszA Try.prog 65 = some 1)) ∧ ((Try.prog.underlying 66 = some (TypeDesc.int IntKind.u8)) ∧ (isAggA Try.prog 66 = some false)))) ∧ ((((sizeA Try.prog 66 = some 1) ∧ (bytesA Try.prog 66 = some 1)) ∧ ((zeroA Try.prog 66 = some [Value.int IntKind.u8 (0)]) ∧ (isU8 Try.prog 66 = true))) ∧ (((eszA Try.prog 66 = some 1) ∧ (Try.prog.underlying 67 = some (TypeDesc.int IntKind.u8))) ∧ ((isAggA Try.prog 67 = some false) ∧ ((sizeA Try.prog 67 = some 1) ∧ (bytesA Try.prog 67 = some 1)))))))) ∧ (((((((zeroA Try.prog 67 = some [Value.int IntKind.u8 (0)]) ∧ (isU8 Try.prog 67 = true)) ∧ ((eszA Try.prog 67 = some 1) ∧ (Try.prog.underlying 68 = some (TypeDesc.func #[74, 74] #[4] false)))) ∧ (((isAggA Try.prog 68 = some false) ∧ (sizeA Try.prog 68 = some 1)) ∧ ((bytesA Try.prog 68 = some 8) ∧ (zeroA Try.prog 68 = some [Value.nilFunc])))) ∧ ((((eszA Try.prog 68 = some 1) ∧ (Try.prog.underlying 69 = some (TypeDesc.pointer 5))) ∧ ((isAggA Try.prog 69 = some false) ∧ (sizeA Try.prog 69 = some 1))) ∧ (((bytesA Try.prog 69 = some 8) ∧ (zeroA Try.prog 69 = some [Value.pointer none])) ∧ ((eszA Try.prog 69 = some 1) ∧ ((Try.prog.underlying 70 = some (TypeDesc.int IntKind.i32)) ∧ (isAggA Try.prog 70 = some false)))))) ∧ (((((sizeA Try.prog 70 = some 1) ∧ (bytesA Try.prog 70 = some 4)) ∧ ((zeroA Try.prog 70 = some [Value.int IntKind.i32 (0)]) ∧ (eszA Try.prog 70 = some 1))) ∧ (((Try.prog.underlying 71 = some (TypeDesc.int IntKind.i32)) ∧ (isAggA Try.prog 71 = some false)) ∧ ((sizeA Try.prog 71 = some 1) ∧ (bytesA Try.prog 71 = some 4)))) ∧ ((((zeroA Try.prog 71 = some [Value.int IntKind.i32 (0)]) ∧ (eszA Try.prog 71 = some 1)) ∧ ((Try.prog.underlying 72 = some (TypeDesc.struct #[{ name := "Size_", type := 12, offset := 0, embedded := false, tag := "", pkgPath := "", byteOffset := 0 }, { name := "PtrBytes", type := 12, offset := 1, embedded := false, tag := "", pkgPath := "", byteOffset := 8 }, { name := "Hash", type := 65, offset := 2, embedded := false, tag := "", pkgPath := "", byteOffset := 16 }, { name := "TFlag", type := 66, offset := 3, embedded := false, tag := "", pkgPath := "", byteOffset := 20 }, { name := "Align_", type := 5, offset := 4, embedded := false, tag := "", pkgPath := "", byteOffset := 21 }, { name := "FieldAlign_", type := 5, offset := 5, embedded := false, tag := "", pkgPath := "", byteOffset := 22 }, { name := "Kind_", type := 67, offset := 6, embedded := false, tag := "", pkgPath := "", byteOffset := 23 }, { name := "Equal", type := 68, offset := 7, embedded := false, tag := "", pkgPath := "", byteOffset := 24 }, { name := "GCData", type := 69, offset := 8, embedded := false, tag := "", pkgPath := "", byteOffset := 32 }, { name := "Str", type := 70, offset := 9, embedded := false, tag := "", pkgPath := "", byteOffset := 40 }, { name := "PtrToThis", type := 71, offset := 10, embedded := false, tag := "", pkgPath := "", byteOffset := 44 }])) ∧ (fieldA Try.prog 72 0 = some (0, 12)))) ∧ (((fieldA Try.prog 72 1 = some (1, 12)) ∧ (fieldA Try.prog 72 2 = some (2, 65))) ∧ ((fieldA Try.prog 72 3 = some (3, 66)) ∧ ((fieldA Try.prog 72 4 = some (4, 5)) ∧ (fieldA Try.prog 72 5 = some (5, 5)))))))) ∧ ((((((fieldA Try.prog 72 6 = some (6, 67)) ∧ (fieldA Try.prog 72 7 = some (7, 68))) ∧ ((fieldA Try.prog 72 8 = some (8, 69)) ∧ (fieldA Try.prog 72 9 = some (9, 70)))) ∧ (((fieldA Try.prog 72 10 = some (10, 71)) ∧ (isAggA Try.prog 72 = some true)) ∧ ((sizeA Try.prog 72 = some 11) ∧ (bytesA Try.prog 72 = some 48)))) ∧ ((((zeroA Try.prog 72 = some [Value.int IntKind.u64 (0), Value.int IntKind.u64 (0), Value.int IntKind.u32 (0), Value.int IntKind.u8 (0), Value.int IntKind.u8 (0), Value.int IntKind.u8 (0), Value.int IntKind.u8 (0), Value.nilFunc, Value.pointer none, Value.int IntKind.i32 (0), Value.int IntKind.i32 (0)]) ∧ (placesA Try.prog 72 = some [(0, 1), (1, 1), (2, 1), (3, 1), (4, 1), (5, 1), (6, 1), (7, 1), (8, 1), (9, 1), (10, 1)])) ∧ ((eszA Try.prog 72 = some 11) ∧ (Try.prog.underlying 73 = some (TypeDesc.struct #[{ name := "Size_", type := 12, offset := 0, embedded := false, tag := "", pkgPath := "", byteOffset := 0 }, { name := "PtrBytes", type := 12, offset := 1, embedded := false, tag := "", pkgPath := "", byteOffset := 8 }, { name := "Hash", type := 65, offset := 2, embedded := false, tag := "", pkgPath := "", byteOffset := 16 }, { name := "TFlag", type := 66, offset := 3, embedded := false, tag := "", pkgPath := "", byteOffset := 20 }, { name := "Align_", type := 5, offset := 4, embedded := false, tag := "", pkgPath := "", byteOffset := 21 }, { name := "FieldAlign_", type := 5, offset := 5, embedded := false, tag := "", pkgPath := "", byteOffset := 22 }, { name := "Kind_", type := 67, offset := 6, embedded := false, tag := "", pkgPath := "", byteOffset := 23 }, { name := "Equal", type := 68, offset := 7, embedded := false, tag := "", pkgPath := "", byteOffset := 24 }, { name := "GCData", type := 69, offset := 8, embedded := false, tag := "", pkgPath := "", byteOffset := 32 }, { name := "Str", type := 70, offset := 9, embedded := false, tag := "", pkgPath := "", byteOffset := 40 }, { name := "PtrToThis", type := 71, offset := 10, embedded := false, tag := "", pkgPath := "", byteOffset := 44 }])))) ∧ (((fieldA Try.prog 73 0 = some (0, 12)) ∧ (fieldA Try.prog 73 1 = some (1, 12))) ∧ ((fieldA Try.prog 73 2 = some (2, 65)) ∧ ((fieldA Try.prog 73 3 = some (3, 66)) ∧ (fieldA Try.prog 73 4 = some (4, 5))))))) ∧ (((((fieldA Try.prog 73 5 = some (5, 5)) ∧ (fieldA Try.prog 73 6 = some (6, 67))) ∧ ((fieldA Try.prog 73 7 = some (7, 68)) ∧ (fieldA Try.prog 73 8 = some (8, 69)))) ∧ (((fieldA Try.prog 73 9 = some (9, 70)) ∧ (fieldA Try.prog 73 10 = some (10, 71))) ∧ ((isAggA Try.prog 73 = some true) ∧ ((sizeA Try.prog 73 = some 11) ∧ (bytesA Try.prog 73 = some 48))))) ∧ ((((zeroA Try.prog 73 = some [Value.int IntKind.u64 (0), Value.int IntKind.u64 (0), Value.int IntKind.u32 (0), Value.int IntKind.u8 (0), Value.int IntKind.u8 (0), Value.int IntKind.u8 (0), Value.int IntKind.u8 (0), Value.nilFunc, Value.pointer none, Value.int IntKind.i32 (0), Value.int IntKind.i32 (0)]) ∧ (placesA Try.prog 73 = some [(0, 1), (1, 1), (2, 1), (3, 1), (4, 1), (5, 1), (6, 1), (7, 1), (8, 1), (9, 1), (10, 1)])) ∧ ((eszA Try.prog 73 = some 11) ∧ (Try.prog.underlying 74 = some TypeDesc.unsafePointer))) ∧ (((isAggA Try.prog 74 = some false) ∧ (sizeA Try.prog 74 = some 1)) ∧ ((bytesA Try.prog 74 = some 8) ∧ ((zeroA Try.prog 74 = some [Value.pointer none]) ∧ (eszA Try.prog 74 = some 1))))))))))) := ⟨⟨⟨⟨⟨⟨⟨⟨⟨u_0, ag_0⟩, ⟨sz_0, by_0⟩⟩, ⟨⟨ze_0, es_0⟩, ⟨u_1, ag_1⟩⟩⟩, ⟨⟨⟨sz_1, by_1⟩, ⟨ze_1, es_1⟩⟩, ⟨⟨u_2, ag_2⟩, ⟨sz_2, ⟨by_2, ze_2⟩⟩⟩⟩⟩, ⟨⟨⟨⟨es_2, u_3⟩, ⟨ag_3, sz_3⟩⟩, ⟨⟨by_3, ze_3⟩, ⟨es_3, u_4⟩⟩⟩, ⟨⟨⟨ag_4, sz_4⟩, ⟨by_4, ze_4⟩⟩, ⟨⟨bo_4, es_4⟩, ⟨u_5, ⟨ag_5, sz_5⟩⟩⟩⟩⟩⟩, ⟨⟨⟨⟨⟨by_5, ze_5⟩, ⟨u8_5, es_5⟩⟩, ⟨⟨u_6, ag_6⟩, ⟨sz_6, by_6⟩⟩⟩, ⟨⟨⟨ze_6, u8_6⟩, ⟨es_6, u_7⟩⟩, ⟨⟨f_7_0, f_7_1⟩, ⟨f_7_2, ⟨f_7_3, ag_7⟩⟩⟩⟩⟩, ⟨⟨⟨⟨sz_7, by_7⟩, ⟨ze_7, pl_7⟩⟩, ⟨⟨es_7, u_8⟩, ⟨f_8_0, f_8_1⟩⟩⟩, ⟨⟨⟨f_8_2, f_8_3⟩, ⟨ag_8, sz_8⟩⟩, ⟨⟨by_8, ze_8⟩, ⟨pl_8, ⟨es_8, u_9⟩⟩⟩⟩⟩⟩⟩, ⟨⟨⟨⟨⟨⟨ag_9, sz_9⟩, ⟨by_9, ze_9⟩⟩, ⟨⟨es_9, u_10⟩, ⟨ag_10, sz_10⟩⟩⟩, ⟨⟨⟨by_10, ze_10⟩, ⟨es_10, u_11⟩⟩, ⟨⟨ag_11, sz_11⟩, ⟨by_11, ⟨ze_11, es_11⟩⟩⟩⟩⟩, ⟨⟨⟨⟨u_12, ag_12⟩, ⟨sz_12, by_12⟩⟩, ⟨⟨ze_12, es_12⟩, ⟨u_13, f_13_0⟩⟩⟩, ⟨⟨⟨f_13_1, ag_13⟩, ⟨sz_13, by_13⟩⟩, ⟨⟨ze_13, pl_13⟩, ⟨es_13, ⟨u_14, f_14_0⟩⟩⟩⟩⟩⟩, ⟨⟨⟨⟨⟨f_14_1, ag_14⟩, ⟨sz_14, by_14⟩⟩, ⟨⟨ze_14, pl_14⟩, ⟨es_14, u_15⟩⟩⟩, ⟨⟨⟨ag_15, sz_15⟩, ⟨by_15, ze_15⟩⟩, ⟨⟨es_15, u_16⟩, ⟨ag_16, ⟨sz_16, by_16⟩⟩⟩⟩⟩, ⟨⟨⟨⟨ze_16, es_16⟩, ⟨u_17, ag_17⟩⟩, ⟨⟨sz_17, by_17⟩, ⟨ze_17, es_17⟩⟩⟩, ⟨⟨⟨u_18, f_18_0⟩, ⟨ag_18, sz_18⟩⟩, ⟨⟨by_18, ze_18⟩, ⟨pl_18, ⟨es_18, u_19⟩⟩⟩⟩⟩⟩⟩⟩, ⟨⟨⟨⟨⟨⟨⟨f_19_0, ag_19⟩, ⟨sz_19, by_19⟩⟩, ⟨⟨ze_19, pl_19⟩, ⟨es_19, u_20⟩⟩⟩, ⟨⟨⟨ag_20, sz_20⟩, ⟨by_20, ze_20⟩⟩, ⟨⟨es_20, u_21⟩, ⟨ag_21, ⟨sz_21, by_21⟩⟩⟩⟩⟩, ⟨⟨⟨⟨ze_21, es_21⟩, ⟨u_22, ag_22⟩⟩, ⟨⟨sz_22, by_22⟩, ⟨ze_22, es_22⟩⟩⟩, ⟨⟨⟨u_23, ag_23⟩, ⟨sz_23, by_23⟩⟩, ⟨⟨ze_23, es_23⟩, ⟨u_24, ⟨ag_24, sz_24⟩⟩⟩⟩⟩⟩, ⟨⟨⟨⟨⟨by_24, ze_24⟩, ⟨es_24, u_25⟩⟩, ⟨⟨f_25_0, f_25_1⟩, ⟨ag_25, sz_25⟩⟩⟩, ⟨⟨⟨by_25, ze_25⟩, ⟨pl_25, es_25⟩⟩, ⟨⟨u_26, f_26_0⟩, ⟨f_26_1, ⟨ag_26, sz_26⟩⟩⟩⟩⟩, ⟨⟨⟨⟨by_26, ze_26⟩, ⟨pl_26, es_26⟩⟩, ⟨⟨u_27, ag_27⟩, ⟨sz_27, by_27⟩⟩⟩, ⟨⟨⟨ze_27, es_27⟩, ⟨u_28, ag_28⟩⟩, ⟨⟨sz_28, by_28⟩, ⟨ze_28, ⟨es_28, u_29⟩⟩⟩⟩⟩⟩⟩, ⟨⟨⟨⟨⟨⟨ag_29, sz_29⟩, ⟨by_29, ze_29⟩⟩, ⟨⟨es_29, u_30⟩, ⟨ag_30, sz_30⟩⟩⟩, ⟨⟨⟨by_30, ze_30⟩, ⟨es_30, u_31⟩⟩, ⟨⟨ag_31, sz_31⟩, ⟨by_31, ⟨ze_31, es_31⟩⟩⟩⟩⟩, ⟨⟨⟨⟨u_32, ag_32⟩, ⟨sz_32, by_32⟩⟩, ⟨⟨ze_32, es_32⟩, ⟨u_33, ag_33⟩⟩⟩, ⟨⟨⟨sz_33, by_33⟩, ⟨ze_33, es_33⟩⟩, ⟨⟨u_34, ag_34⟩, ⟨sz_34, ⟨by_34, ze_34⟩⟩⟩⟩⟩⟩, ⟨⟨⟨⟨⟨es_34, u_35⟩, ⟨ag_35, sz_35⟩⟩, ⟨⟨by_35, ze_35⟩, ⟨es_35, u_36⟩⟩⟩, ⟨⟨⟨ag_36, sz_36⟩, ⟨by_36, ze_36⟩⟩, ⟨⟨es_36, u_37⟩, ⟨f_37_0, ⟨f_37_1, ag_37⟩⟩⟩⟩⟩, ⟨⟨⟨⟨sz_37, by_37⟩, ⟨ze_37, pl_37⟩⟩, ⟨⟨es_37, u_38⟩, ⟨f_38_0, ⟨f_38_1, ag_38⟩⟩⟩⟩, ⟨⟨⟨sz_38, by_38⟩, ⟨ze_38, pl_38⟩⟩, ⟨⟨es_38, u_39⟩, ⟨ag_39, ⟨sz_39, by_39⟩⟩⟩⟩⟩⟩⟩⟩⟩, ⟨⟨⟨⟨⟨⟨⟨⟨ze_39, es_39⟩, ⟨u_40, ag_40⟩⟩, ⟨⟨sz_40, by_40⟩, ⟨ze_40, es_40⟩⟩⟩, ⟨⟨⟨u_41, ag_41⟩, ⟨sz_41, by_41⟩⟩, ⟨⟨ze_41, es_41⟩, ⟨u_42, ⟨ag_42, sz_42⟩⟩⟩⟩⟩, ⟨⟨⟨⟨by_42, ze_42⟩, ⟨es_42, u_43⟩⟩, ⟨⟨ag_43, sz_43⟩, ⟨by_43, ze_43⟩⟩⟩, ⟨⟨⟨es_43, u_44⟩, ⟨ag_44, sz_44⟩⟩, ⟨⟨by_44, ze_44⟩, ⟨es_44, ⟨u_45, f_45_0⟩⟩⟩⟩⟩⟩, ⟨⟨⟨⟨⟨f_45_1, f_45_2⟩, ⟨f_45_3, f_45_4⟩⟩, ⟨⟨f_45_5, f_45_6⟩, ⟨ag_45, sz_45⟩⟩⟩, ⟨⟨⟨by_45, ze_45⟩, ⟨pl_45, es_45⟩⟩, ⟨⟨u_46, f_46_0⟩, ⟨f_46_1, ⟨f_46_2, f_46_3⟩⟩⟩⟩⟩, ⟨⟨⟨⟨f_46_4, f_46_5⟩, ⟨f_46_6, ag_46⟩⟩, ⟨⟨sz_46, by_46⟩, ⟨ze_46, pl_46⟩⟩⟩, ⟨⟨⟨es_46, u_47⟩, ⟨ag_47, sz_47⟩⟩, ⟨⟨by_47, ze_47⟩, ⟨es_47, ⟨u_48, f_48_0⟩⟩⟩⟩⟩⟩⟩, ⟨⟨⟨⟨⟨⟨f_48_1, ag_48⟩, ⟨sz_48, by_48⟩⟩, ⟨⟨ze_48, pl_48⟩, ⟨es_48, u_49⟩⟩⟩, ⟨⟨⟨f_49_0, f_49_1⟩, ⟨ag_49, sz_49⟩⟩, ⟨⟨by_49, ze_49⟩, ⟨pl_49, ⟨es_49, u_50⟩⟩⟩⟩⟩, ⟨⟨⟨⟨ag_50, sz_50⟩, ⟨by_50, ze_50⟩⟩, ⟨⟨es_50, u_51⟩, ⟨ag_51, sz_51⟩⟩⟩, ⟨⟨⟨by_51, ze_51⟩, ⟨es_51, u_52⟩⟩, ⟨⟨ag_52, sz_52⟩, ⟨by_52, ⟨ze_52, es_52⟩⟩⟩⟩⟩⟩, ⟨⟨⟨⟨⟨u_53, ag_53⟩, ⟨sz_53, by_53⟩⟩, ⟨⟨ze_53, es_53⟩, ⟨u_54, ag_54⟩⟩⟩, ⟨⟨⟨sz_54, by_54⟩, ⟨ze_54, es_54⟩⟩, ⟨⟨u_55, ag_55⟩, ⟨sz_55, ⟨by_55, ze_55⟩⟩⟩⟩⟩, ⟨⟨⟨⟨es_55, u_56⟩, ⟨ag_56, sz_56⟩⟩, ⟨⟨by_56, ze_56⟩, ⟨es_56, ⟨u_57, ag_57⟩⟩⟩⟩, ⟨⟨⟨sz_57, by_57⟩, ⟨ze_57, es_57⟩⟩, ⟨⟨u_58, ag_58⟩, ⟨sz_58, ⟨by_58, ze_58⟩⟩⟩⟩⟩⟩⟩⟩, ⟨⟨⟨⟨⟨⟨⟨es_58, u_59⟩, ⟨ag_59, sz_59⟩⟩, ⟨⟨by_59, ze_59⟩, ⟨es_59, u_60⟩⟩⟩, ⟨⟨⟨f_60_0, f_60_1⟩, ⟨f_60_2, f_60_3⟩⟩, ⟨⟨ag_60, sz_60⟩, ⟨by_60, ⟨ze_60, pl_60⟩⟩⟩⟩⟩, ⟨⟨⟨⟨es_60, u_61⟩, ⟨f_61_0, f_61_1⟩⟩, ⟨⟨f_61_2, f_61_3⟩, ⟨ag_61, sz_61⟩⟩⟩, ⟨⟨⟨by_61, ze_61⟩, ⟨pl_61, es_61⟩⟩, ⟨⟨u_62, ag_62⟩, ⟨sz_62, ⟨by_62, ze_62⟩⟩⟩⟩⟩⟩, ⟨⟨⟨⟨⟨es_62, u_63⟩, ⟨f_63_0, ag_63⟩⟩, ⟨⟨sz_63, by_63⟩, ⟨ze_63, pl_63⟩⟩⟩, ⟨⟨⟨es_63, u_64⟩, ⟨f_64_0, ag_64⟩⟩, ⟨⟨sz_64, by_64⟩, ⟨ze_64, ⟨pl_64, es_64⟩⟩⟩⟩⟩, ⟨⟨⟨⟨u_65, ag_65⟩, ⟨sz_65, by_65⟩⟩, ⟨⟨ze_65, es_65⟩, ⟨u_66, ag_66⟩⟩⟩, ⟨⟨⟨sz_66, by_66⟩, ⟨ze_66, u8_66⟩⟩, ⟨⟨es_66, u_67⟩, ⟨ag_67, ⟨sz_67, by_67⟩⟩⟩⟩⟩⟩⟩, ⟨⟨⟨⟨⟨⟨ze_67, u8_67⟩, ⟨es_67, u_68⟩⟩, ⟨⟨ag_68, sz_68⟩, ⟨by_68, ze_68⟩⟩⟩, ⟨⟨⟨es_68, u_69⟩, ⟨ag_69, sz_69⟩⟩, ⟨⟨by_69, ze_69⟩, ⟨es_69, ⟨u_70, ag_70⟩⟩⟩⟩⟩, ⟨⟨⟨⟨sz_70, by_70⟩, ⟨ze_70, es_70⟩⟩, ⟨⟨u_71, ag_71⟩, ⟨sz_71, by_71⟩⟩⟩, ⟨⟨⟨ze_71, es_71⟩, ⟨u_72, f_72_0⟩⟩, ⟨⟨f_72_1, f_72_2⟩, ⟨f_72_3, ⟨f_72_4, f_72_5⟩⟩⟩⟩⟩⟩, ⟨⟨⟨⟨⟨f_72_6, f_72_7⟩, ⟨f_72_8, f_72_9⟩⟩, ⟨⟨f_72_10, ag_72⟩, ⟨sz_72, by_72⟩⟩⟩, ⟨⟨⟨ze_72, pl_72⟩, ⟨es_72, u_73⟩⟩, ⟨⟨f_73_0, f_73_1⟩, ⟨f_73_2, ⟨f_73_3, f_73_4⟩⟩⟩⟩⟩, ⟨⟨⟨⟨f_73_5, f_73_6⟩, ⟨f_73_7, f_73_8⟩⟩, ⟨⟨f_73_9, f_73_10⟩, ⟨ag_73, ⟨sz_73, by_73⟩⟩⟩⟩, ⟨⟨⟨ze_73, pl_73⟩, ⟨es_73, u_74⟩⟩, ⟨⟨ag_74, sz_74⟩, ⟨by_74, ⟨ze_74, es_74⟩⟩⟩⟩⟩⟩⟩⟩⟩⟩
end Go.Abs
/- Abs28: blocks of the base that are written; what else stays. Conditions: none. -/
set_option maxRecDepth 100000
set_option linter.unusedVariables false
namespace Go.Abs
section
variable {h H X : AHeap} {p q i : Nat} {v w : Option AObj} {k : Blk}
theorem set_base (hp : p < h.length) : (h ++ X).set p v = h.set p v ++ X := List.set_append_left _ _ hp
theorem blk_setB (hp : p < h.length) : blkA (h.set p (some (.cells k)) ++ X) p = some k := by
  unfold blkA; rw [List.getElem?_append_left (by rw [List.length_set]; exact hp), List.getElem?_set_self hp]
theorem blk_setB0 (hp : p < h.length) : blkA (h.set p (some (.cells k))) p = some k := by
  unfold blkA; rw [List.getElem?_set_self hp]
theorem blk_setN (hn : q ≠ p) : blkA (h.set p v ++ X) q = blkA (h ++ X) q := by
  unfold blkA
  by_cases hq : q < h.length
  · rw [List.getElem?_append_left (by rw [List.length_set]; exact hq), List.getElem?_append_left hq, List.getElem?_set_ne (fun h => hn h.symm)]
  · rw [List.getElem?_append_right (by rw [List.length_set]; omega), List.getElem?_append_right (by omega), List.length_set]
theorem blk_setN0 (hn : q ≠ p) : blkA (h.set p v) q = blkA h q := by
  unfold blkA; rw [List.getElem?_set_ne (fun h => hn h.symm)]
theorem set_atH (hl : H.length = h.length) : (H ++ X).set (h.length + i) v = H ++ X.set i v := by rw [← hl]; exact set_at
theorem set_atH0 (hl : H.length = h.length) : (H ++ X).set h.length v = H ++ X.set 0 v := by rw [← hl]; exact set_at0
theorem blk_atH (hl : H.length = h.length) : blkA (H ++ X) (h.length + i) = nth X i := by rw [← hl]; exact blkA_at
theorem blk_atH0 (hl : H.length = h.length) : blkA (H ++ X) h.length = nth X 0 := by rw [← hl]; exact blkA_at0
theorem set_twice : (h.set p v).set p w = h.set p w := List.set_set ..
end
section
variable {P : Program} {h : AHeap} {t : TypeId} {b o n m : Nat} {lo hi : Option Value} {K : Value → Prop}
theorem slice_nil : someP (sliceA P t (.slice none 0 0) lo hi h) K = someP (sliceT (P.underlying t)) fun e => someP (sizeA P e) fun _ => someP (boundsA 0 lo hi) fun _ => K (.slice none 0 0) := by
  unfold sliceA
  cases P.underlying t with
  | none => simp [someP_n, sliceT]
  | some d =>
    cases d with
    | slice e =>
      simp only [sliceT, someP_s]
      cases sizeA P e <;> cases boundsA 0 lo hi <;> simp [someP_n, someP_s]
    | _ => simp [someP_n, sliceT]
theorem slice_some : someP (sliceA P t (.slice (some ⟨b, o, none⟩) n m) lo hi h) K = someP (sliceT (P.underlying t)) fun e => someP (boundsA n lo hi) fun p => someP (sizeA P e) fun size => someP (blkA h b) fun k => k.esz = size ∧ K (.slice (some ⟨b, o + p.1 * size, none⟩) (p.2 - p.1) (p.2 - p.1)) := by
  unfold sliceA
  cases P.underlying t with
  | none => simp [someP_n, sliceT]
  | some d =>
    cases d with
    | slice e =>
      simp only [sliceT, someP_s]
      cases boundsA n lo hi with
      | none => simp [someP_n]
      | some p =>
        cases sizeA P e with
        | none => simp [someP_n, someP_s]
        | some size =>
          cases blkA h b with
          | none => simp [someP_n, someP_s]
          | some k => simp [someP_s, sP_ite]
    | _ => simp [someP_n, sliceT]
end
/-! ### regions that draw their order -/
def flexS (ops : Array Oper) (k : Nat) : Option (List (TypeId × Operand)) :=
  ((List.range ops.size).filter fun j => !(j == k || pureAt ops j || (if j < k then ((ancA ops.toList []).getD k []).contains j else ((ancA ops.toList []).getD j []).contains k))).mapM fun j =>
    if (decide (j < k) && looksFree ops j k) = true then match ops[j]? with
      | some o => match o.op with
        | .load t x => some (t, x)
        | _ => none
      | none => none
    else none
theorem mapM_mem {α β : Type} {f : α → Option β} : ∀ {l : List α} {r : List β}, l.mapM f = some r → ∀ x, x ∈ l → ∃ y, f x = some y ∧ y ∈ r
  | [], _, _, x, hx => by simp at hx
  | a :: l, r, h, x, hx => by
    simp only [List.mapM_cons] at h
    cases ha : f a with
    | none => simp [ha] at h
    | some b =>
      cases hl : l.mapM f with
      | none => simp [ha, hl] at h
      | some s =>
        simp [ha, hl] at h
        subst h
        rcases List.mem_cons.1 hx with rfl | hx
        · exact ⟨b, ha, by simp⟩
        · obtain ⟨y, h1, h2⟩ := mapM_mem hl x hx
          exact ⟨y, h1, by simp [h2]⟩
section
variable {c : Ctx} {ops : Array Oper} {k : Nat} {fr : AFrame} {h h' : AHeap} {op : Op} {p : Prop}
theorem flex_of {L : List (TypeId × Operand)} (hs : flexS ops k = some L) (hL : ∀ tx, tx ∈ L → ∃ a, evA c fr tx.2 = some a ∧ loadA c.P h tx.1 a = loadA c.P h' tx.1 a) : flexA c ops (ancA ops.toList []) k fr h h' = true := by
  refine List.all_eq_true.2 fun j hj => ?_
  by_cases hb : (j == k || pureAt ops j || (if j < k then ((ancA ops.toList []).getD k []).contains j else ((ancA ops.toList []).getD j []).contains k)) = true
  · rw [hb]; rfl
  · obtain ⟨tx, h1, h2⟩ := mapM_mem hs j (List.mem_filter.2 ⟨hj, by rw [Bool.not_eq_true] at hb; rw [hb]; rfl⟩)
    obtain ⟨a, h3, h4⟩ := hL tx h2
    split at h1
    · rename_i hc
      simp only [Bool.and_eq_true] at hc
      split at h1
      · rename_i o ho
        split at h1
        · rename_i t x hop
          cases h1
          simp only at h3 h4
          simp only [hc.1, hc.2, Bool.true_and, ho, hop, h3, h4, decide_true, Bool.or_true]
        · cases h1
      · cases h1
    · cases h1
theorem DQ_mt (hm : mutA ops (ancA ops.toList []) k = true) : DQ op (mtF c ops k fr h h') h h' p = p := DQ_m (by unfold mtF; rw [hm]; rfl)
theorem DQ_fx {L : List (TypeId × Operand)} (hs : flexS ops k = some L) (hL : ∀ tx, tx ∈ L → ∃ a, evA c fr tx.2 = some a ∧ loadA c.P h tx.1 a = loadA c.P h' tx.1 a) (hp : p) : DQ op (mtF c ops k fr h h') h h' p := by
  rw [DQ_m]
  · exact hp
  · unfold mtF; rw [flex_of hs hL, Bool.or_true]
theorem DQ_fx1 {t : TypeId} {u : Tmp} {v : Value} (hs : flexS ops k = some [(t, .tmp u)]) (hv : fget fr u = v) (hl : loadA c.P h t v = loadA c.P h' t v) (hp : p) : DQ op (mtF c ops k fr h h') h h' p :=
  DQ_fx hs (fun tx htx => by rw [List.mem_singleton] at htx; subst htx; exact ⟨v, congrArg some hv, hl⟩) hp
end
/-! ### nil -/
def ptrT : Option TypeDesc → Bool
  | some (.pointer _) => true
  | _ => false
theorem ptT {e : TypeId} : ptrT (some (.pointer e)) = true := rfl
section
variable {P : Program} {t : TypeId} {cx : Bool} {a : Option Addr} {n m : Nat}
theorem nil_eqP (ht : ptrT (P.underlying t) = true) : binA P .eql t cx true (.pointer a) (.pointer none) = some (.bool a.isNone) := by
  cases hu : P.underlying t with
  | none => rw [hu] at ht; simp [ptrT] at ht
  | some d =>
    cases d <;> rw [hu] at ht <;> simp [ptrT] at ht
    cases a <;> simp [binA, eqNilA, nilType, hu, nilA]
theorem nil_neP (ht : ptrT (P.underlying t) = true) : binA P .neq t cx true (.pointer a) (.pointer none) = some (.bool (!a.isNone)) := by
  cases hu : P.underlying t with
  | none => rw [hu] at ht; simp [ptrT] at ht
  | some d =>
    cases d <;> rw [hu] at ht <;> simp [ptrT] at ht
    cases a <;> simp [binA, eqNilA, nilType, hu, nilA]
theorem nil_eqS {e : TypeId} (ht : sliceT (P.underlying t) = some e) : binA P .eql t cx true (.slice a n m) (.slice none 0 0) = some (.bool a.isNone) := by
  cases hu : P.underlying t with
  | none => rw [hu] at ht; simp [sliceT] at ht
  | some d =>
    cases d <;> rw [hu] at ht <;> simp [sliceT] at ht
    cases a <;> simp [binA, eqNilA, nilType, hu, nilA]
theorem nil_neS {e : TypeId} (ht : sliceT (P.underlying t) = some e) : binA P .neq t cx true (.slice a n m) (.slice none 0 0) = some (.bool (!a.isNone)) := by
  cases hu : P.underlying t with
  | none => rw [hu] at ht; simp [sliceT] at ht
  | some d =>
    cases d <;> rw [hu] at ht <;> simp [sliceT] at ht
    cases a <;> simp [binA, eqNilA, nilType, hu, nilA]
end
/-- A heap behind another: blocks outside F stand as they were; the blocks of F' are of F or new. -/
structure Upd (h h' : AHeap) (F F' : List Nat) : Prop where
  len : h.length ≤ h'.length
  same : ∀ q, q < h.length → q ∉ F → h'[q]? = h[q]?
  own : ∀ q, q ∈ F' → q ∈ F ∨ h.length ≤ q
theorem Upd.refl (h : AHeap) (F : List Nat) : Upd h h F F := ⟨Nat.le_refl _, fun _ _ _ => rfl, fun _ hq => .inl hq⟩
theorem Upd.trans {a b c : AHeap} {F G K : List Nat} (x : Upd a b F G) (y : Upd b c G K) : Upd a c F K := by
  refine ⟨Nat.le_trans x.len y.len, fun q hq hn => ?_, fun q hq => ?_⟩
  · rw [y.same q (Nat.lt_of_lt_of_le hq x.len) (fun hg => ?_), x.same q hq hn]
    rcases x.own q hg with h | h
    · exact hn h
    · omega
  · rcases y.own q hq with h | h
    · exact x.own q h
    · exact .inr (Nat.le_trans x.len h)
theorem Upd.blk {h h' : AHeap} {F F' : List Nat} (u : Upd h h' F F') {q : Nat} {k : Blk} (hq : q ∉ F) (hb : blkA h q = some k) : blkA h' q = some k := by
  have hl := blkA_lt hb
  unfold blkA at hb ⊢
  rw [u.same q hl hq]; exact hb
theorem Upd.ext {h h' : AHeap} (F : List Nat) (e : Ext h h') : Upd h h' F F := ⟨e.len, fun q hq _ => e.get hq, fun _ hq => .inl hq⟩
theorem Upd.app (h g : AHeap) (F : List Nat) : Upd h (h ++ g) F F := Upd.ext F (.app h g)
theorem Upd.set {h h' : AHeap} {F F' : List Nat} (u : Upd h h' F F') {b : Nat} {v : Option AObj} (hb : b ∈ F) : Upd h (h'.set b v) F F' :=
  ⟨by rw [List.length_set]; exact u.len, fun q hq hn => by
    have hne : b ≠ q := (fun e => by subst e; exact hn hb)
    rw [List.getElem?_set_ne hne]; exact u.same q hq hn, u.own⟩
theorem Upd.setNew {h h' : AHeap} {F F' : List Nat} (u : Upd h h' F F') {b : Nat} {v : Option AObj} (hb : h.length ≤ b) : Upd h (h'.set b v) F F' :=
  ⟨by rw [List.length_set]; exact u.len, fun q hq hn => by
    have hne : b ≠ q := by omega
    rw [List.getElem?_set_ne hne]; exact u.same q hq hn, u.own⟩
theorem Upd.more {h h' : AHeap} {F F' : List Nat} (u : Upd h h' F F') (g : AHeap) : Upd h (h' ++ g) F F' :=
  ⟨by rw [List.length_append]; exact Nat.le_trans u.len (Nat.le_add_right _ _), fun q hq hn => by rw [List.getElem?_append_left (Nat.lt_of_lt_of_le hq u.len)]; exact u.same q hq hn, u.own⟩
theorem Upd.to {h h' : AHeap} {F F' G : List Nat} (u : Upd h h' F F') (hg : ∀ q, q ∈ G → q ∈ F ∨ h.length ≤ q) : Upd h h' F G := ⟨u.len, u.same, hg⟩
theorem Upd.from {h h' : AHeap} {F F' G : List Nat} (u : Upd h h' F F') (hg : ∀ q, q ∈ F → q ∈ G) : Upd h h' G F' := ⟨u.len, fun q hq hn => u.same q hq (fun hf => hn (hg q hf)), fun q hq => (u.own q hq).imp (hg q) id⟩
end Go.Abs
/- Abs29: the rules, in bundles. Conditions: none. -/
set_option maxRecDepth 100000
set_option linter.defProp false
namespace Go.Abs
noncomputable def RP := And.intro @RWn (And.intro @RWc (And.intro @RWg' (And.intro @PWn (And.intro @PWs (And.intro @CW_eq (And.intro @CB_bool (And.intro @GW_t (And.intro @GW_f (And.intro @OW_move (And.intro @OW_assign (And.intro @OW_pick (And.intro @OW_nilCheck (And.intro @OW_bin (And.intro @OW_un (And.intro @OW_makeFunc (And.intro @OW_fieldAddr (And.intro @OW_field (And.intro @OW_indexAddr (And.intro @OW_index (And.intro @OW_extract (And.intro @OW_build (And.intro @OW_len (And.intro @OW_min (And.intro @OW_max (And.intro @OW_load (And.intro @OW_store (And.intro @OW_alloc (And.intro @OW_box (And.intro @OW_convert (And.intro @OW_slice (And.intro @OW_buildSlice (And.intro @OW_makeSlice (And.intro @OW_call (And.intro @OW_append (And.intro @AW_skip (And.intro @AW_ret (And.intro @AW_exit (And.intro @AW_reg (And.intro @AW_cond (And.intro @AW_block (And.intro @tQn (And.intro @tQe (And.intro @tQr (And.intro @bQn (And.intro @bQe (And.intro @bQr (And.intro @rQn (And.intro @rQr (And.intro @AW_draw (And.intro @RWDn (And.intro @RWDc (And.intro @RWDg' (And.intro @DQ_move (And.intro @DQ_assign (And.intro @DQ_pick (And.intro @DQ_nilCheck (And.intro @DQ_bin (And.intro @DQ_un (And.intro @DQ_makeFunc (And.intro @DQ_makeIface (And.intro @DQ_fieldAddr (And.intro @DQ_field (And.intro @DQ_indexAddr (And.intro @DQ_index (And.intro @DQ_extract (And.intro @DQ_build (And.intro @DQ_len (And.intro @DQ_min (And.intro @DQ_max (And.intro @DQ_load (And.intro @DQ_convert (And.intro @DQ_slice (And.intro @DQ_alloc (And.intro @DQ_box (And.intro @DQ_buildSlice (And.intro @DQ_makeSlice (And.intro @DQ_range (And.intro @AW_seq (And.intro @DQ_pre (@DQ_mt))))))))))))))))))))))))))))))))))))))))))))))))))))))))))))))))))))))))))))))))
noncomputable def RQ := And.intro @gsome (And.intro @someP_s (And.intro @someP_n (And.intro @evA_tmp (And.intro @evA_int (And.intro @evA_str (And.intro @evA_bool (And.intro @evA_nilp (And.intro @evA_nils (And.intro @evA_nilf (And.intro @evA_nili (And.intro @evA_func (And.intro @evL_n (And.intro @evL_c (And.intro @evP_n (And.intro @evP_c (And.intro @b_add (And.intro @b_sub (And.intro @b_mul (And.intro @b_quo (And.intro @b_rem (And.intro @b_and32 (And.intro @b_or32 (And.intro @b_xor32 (And.intro @b_and8 (And.intro @b_or8 (And.intro @b_xor8 (And.intro @ofInt32 (And.intro @b_eql (And.intro @b_neq (And.intro @b_lss (And.intro @b_leq (And.intro @b_gtr (And.intro @b_geq (And.intro @bb_eql (And.intro @bb_neq (And.intro @un_not (And.intro @un_neg (And.intro @un_xor32 (And.intro @conv_int (And.intro @conv_int2 (And.intro @res_n (And.intro @res_t (And.intro @res_c (And.intro @one1 (And.intro @one0 (And.intro @one2 (And.intro @fget_set (And.intro @fget_cons0 (And.intro @fget_consS (And.intro @Int.toNat_natCast (And.intro @Nat.mul_one (And.intro @Nat.zero_add (And.intro @Nat.add_zero (And.intro @and_self (And.intro @true_and (And.intro @and_true (And.intro @decide_eq_true_eq (And.intro @Bool.false_eq_true (And.intro @List.toList_toArray.{0} (And.intro @List.getElem?_toArray.{0} (And.intro @List.getElem?_cons_zero.{0} (And.intro @List.getElem?_cons_succ.{0} (And.intro @List.nil_append.{0} (And.intro @List.append_nil.{0} (And.intro @List.cons_append.{0} (And.intro @sP_ite (And.intro @sP_ite2 (And.intro @sP_map (And.intro @sP_bind (And.intro @nth_0 (And.intro @nth_S (And.intro @nth_g (And.intro @nth_g0 (And.intro @loadA_eq (And.intro @loadK_1 (And.intro @loadK_n (And.intro @storeA_eq (And.intro @storeK_s (And.intro @put_n (And.intro @put_c (And.intro @c_int (And.intro @c_str (And.intro @c_bool (And.intro @c_ptr (And.intro @c_sl (And.intro @c_fn (And.intro @c_nf (And.intro @c_ni (And.intro @c_agg (And.intro @o_int (And.intro @o_str (And.intro @o_bool (And.intro @o_ptr (And.intro @o_sl (And.intro @o_fn (And.intro @o_nf (And.intro @o_ni (And.intro @all_n (And.intro @all_c (And.intro @all_a (And.intro @build_s (And.intro @fillL_n (And.intro @fillL_c (And.intro @bslice (And.intro @mslice (And.intro @app_nil (And.intro @app_some (And.intro @app_type (And.intro @more_nil (And.intro @more_some (And.intro @more_str (And.intro @takeA_eq (And.intro @str_mk (And.intro @str_size (And.intro @str_data (And.intro @str_app (And.intro @ss_add (And.intro @ss_eql (And.intro @ss_neq (And.intro @bd_nn (And.intro @bd_ni (And.intro @bd_in (And.intro @bd_ii (And.intro @slice_str (And.intro @index_str (And.intro @len_str (And.intro @len_sl' (And.intro @cv_sb (And.intro @idx_sl (And.intro @slT (And.intro @stT (And.intro @part_1 (And.intro @part_n (And.intro @List.append_assoc.{0} (And.intro @List.length_append.{0} (And.intro @List.length_cons.{0} (And.intro @List.length_nil.{0} (And.intro @List.set_cons_zero.{0} (And.intro @List.set_cons_succ.{0} (And.intro @List.getElem?_nil.{0} (And.intro @List.size_toArray.{0} (And.intro @List.drop_zero.{0} (And.intro @List.drop_succ_cons.{0} (And.intro @List.take_succ_cons.{0} (And.intro @List.take_zero.{0} (And.intro @List.drop_nil.{0} (And.intro @List.take_nil.{0} (And.intro @Bool.and_true (And.intro @Bool.true_and (And.intro @Bool.and_self (And.intro @not_true_eq_false (And.intro @not_false_eq_true (And.intro @Nat.le_refl (And.intro @Option.isSome_some.{0} (And.intro @List.length_replicate.{0} (And.intro @List.length_map.{0, 0} (And.intro @Option.getD_some.{0} (And.intro @wrap64 (And.intro @strOf_map (And.intro @shl_1 (And.intro @shl_2 (And.intro @shl_3 (And.intro @shl_4 (And.intro @shl_8 (And.intro @shl_16 (And.intro @shl_24 (And.intro @shr_1 (And.intro @shr_2 (And.intro @shr_3 (And.intro @shr_4 (And.intro @shr_8 (And.intro @and_1 (And.intro @and_7 (And.intro @b_or64 (And.intro @decide_true (And.intro @decide_false (And.intro @Bool.or_true (And.intro @Bool.or_false (And.intro @Bool.not_true (And.intro @Bool.not_false (And.intro @Bool.not_not (And.intro @b_shr32l (And.intro @Int.natCast_nonneg (And.intro @takeMap (And.intro @bytesV_str (And.intro @all_byteV (And.intro @decide_not (And.intro @Nat.sub_zero (And.intro @Int.sub_zero (And.intro @Int.zero_add (And.intro @Int.add_zero (And.intro @takeDrop (And.intro @takeAll (And.intro @cast0 (And.intro @cast1 (And.intro @rep0 (And.intro @rep1 (And.intro @rep2 (And.intro @rep3 (And.intro @rep4 (And.intro @nth_gs (And.intro @nth_gs0 (And.intro @set_gs (And.intro @set_gs0 (And.intro @List.length_set.{0} (And.intro @set_base (And.intro @blk_setB (And.intro @blk_setB0 (And.intro @blk_setN (And.intro @blk_setN0 (And.intro @set_atH (And.intro @set_atH0 (And.intro @blk_atH (And.intro @blk_atH0 (And.intro @set_twice (And.intro @slice_nil (And.intro @slice_some (And.intro @nil_eqP (And.intro @nil_neP (And.intro @ptT (And.intro @Option.isNone_none.{0} (And.intro @Option.isNone_some.{0} (And.intro @or_true (And.intro @true_or (And.intro @or_false (@false_or))))))))))))))))))))))))))))))))))))))))))))))))))))))))))))))))))))))))))))))))))))))))))))))))))))))))))))))))))))))))))))))))))))))))))))))))))))))))))))))))))))))))))))))))))))))))))))))))))))))))))))))))))))))))))))))))))
end Go.Abs
/- Srt1: stable sorting, on lists: insertion, merging, swapping of ranges, rotation. Conditions: none. -/
set_option linter.unusedVariables false
namespace Go.Abs.Srt
variable {α : Type} (key : α → Int)
theorem snocRec {P : List α → Prop} (h0 : P []) (h1 : ∀ l x, P l → P (l ++ [x])) (l : List α) : P l := by
  have : ∀ r : List α, P r.reverse := by
    intro r
    induction r with
    | nil => exact h0
    | cons x r ih => rw [List.reverse_cons]; exact h1 _ _ ih
  have h := this l.reverse
  rwa [List.reverse_reverse] at h
def Sorted (l : List α) : Prop := l.Pairwise fun x y => key x ≤ key y
/-- Insertion from the right. -/
def insRev : List α → α → List α
  | [], x => [x]
  | y :: r, x => if key x < key y then y :: insRev r x else x :: y :: r
def insR (s : List α) (x : α) : List α := (insRev key s.reverse x).reverse
def isort (l : List α) : List α := l.foldl (insR key) []
theorem insR_nil (x : α) : insR key [] x = [x] := rfl
theorem insR_snoc_lt {s : List α} {x y : α} (h : key x < key y) : insR key (s ++ [y]) x = insR key s x ++ [y] := by
  unfold insR
  rw [List.reverse_append]
  simp only [List.reverse_cons, List.reverse_nil, List.nil_append, List.cons_append]
  rw [insRev, if_pos h, List.reverse_cons]
theorem insR_snoc_ge {s : List α} {x y : α} (h : ¬ key x < key y) : insR key (s ++ [y]) x = s ++ [y, x] := by
  unfold insR
  rw [List.reverse_append]
  simp only [List.reverse_cons, List.reverse_nil, List.nil_append, List.cons_append]
  rw [insRev, if_neg h]
  simp
theorem isort_snoc (l : List α) (x : α) : isort key (l ++ [x]) = insR key (isort key l) x := by
  unfold isort; rw [List.foldl_append]; rfl
theorem insRev_length : ∀ (l : List α) (x : α), (insRev key l x).length = l.length + 1
  | [], x => rfl
  | y :: r, x => by
    unfold insRev
    split
    · rw [List.length_cons, insRev_length r x, List.length_cons]
    · rfl
theorem insR_length (s : List α) (x : α) : (insR key s x).length = s.length + 1 := by
  unfold insR; rw [List.length_reverse, insRev_length, List.length_reverse]
theorem isort_length (l : List α) : (isort key l).length = l.length := by
  have : ∀ (l s : List α), (l.foldl (insR key) s).length = s.length + l.length := by
    intro l
    induction l with
    | nil => intro s; simp
    | cons x l ih => intro s; rw [List.foldl_cons, ih, insR_length, List.length_cons]; omega
  unfold isort; rw [this]; simp
/-- Merging; the left one first where keys are equal. -/
def mrg : List α → List α → List α
  | [], b => b
  | x :: a, [] => x :: a
  | x :: a, y :: b => if key y < key x then y :: mrg (x :: a) b else x :: mrg a (y :: b)
theorem mrg_cons (x y : α) (a b : List α) : mrg key (x :: a) (y :: b) = if key y < key x then y :: mrg key (x :: a) b else x :: mrg key a (y :: b) := by rw [mrg]
theorem mrg_nil_left (b : List α) : mrg key [] b = b := by rw [mrg]
theorem mrg_nil_right (a : List α) : mrg key a [] = a := by cases a <;> rw [mrg]
theorem mrg_length : ∀ (a b : List α), (mrg key a b).length = a.length + b.length
  | [], b => by rw [mrg]; simp
  | x :: a, [] => by rw [mrg]; simp
  | x :: a, y :: b => by
    rw [mrg]
    split
    · rw [List.length_cons, mrg_length (x :: a) b]; simp only [List.length_cons]; omega
    · rw [List.length_cons, mrg_length a (y :: b)]; simp only [List.length_cons]; omega
/-- Where the left halves lie ahead of the right halves, merging goes half by half. -/
theorem mrg_split : ∀ (a1 b1 a2 b2 : List α), (∀ x, x ∈ a1 → ∀ y, y ∈ b2 → key x ≤ key y) → (∀ y, y ∈ b1 → ∀ x, x ∈ a2 → key y < key x) → mrg key (a1 ++ a2) (b1 ++ b2) = mrg key a1 b1 ++ mrg key a2 b2
  | [], [], a2, b2, _, _ => by simp [mrg]
  | [], y :: b1, [], b2, _, _ => by simp [mrg]
  | [], y :: b1, x :: a2, b2, h1, h2 => by
    have := h2 y (by simp) x (by simp)
    rw [List.nil_append, List.cons_append, mrg_cons, if_pos this, mrg_nil_left, List.cons_append]
    have ih := mrg_split [] b1 (x :: a2) b2 h1 (fun z hz => h2 z (by simp [hz]))
    rw [List.nil_append, mrg_nil_left] at ih
    rw [ih]
  | x :: a1, [], a2, [], _, _ => by simp [mrg_nil_right]
  | x :: a1, [], a2, y :: b2, h1, h2 => by
    have := h1 x (by simp) y (by simp)
    have ih := mrg_split a1 [] a2 (y :: b2) (fun z hz => h1 z (by simp [hz])) h2
    rw [List.nil_append, mrg_nil_right] at ih
    rw [List.nil_append, List.cons_append, mrg_cons, if_neg (by omega), mrg_nil_right, ih, List.cons_append]
  | x :: a1, y :: b1, a2, b2, h1, h2 => by
    rw [List.cons_append, List.cons_append, mrg_cons, mrg_cons]
    split
    · have ih := mrg_split (x :: a1) b1 a2 b2 h1 (fun z hz => h2 z (by simp [hz]))
      rw [List.cons_append] at ih
      rw [ih, List.cons_append]
    · have ih := mrg_split a1 (y :: b1) a2 b2 (fun z hz => h1 z (by simp [hz])) h2
      rw [List.cons_append] at ih
      rw [ih, List.cons_append]
  termination_by a1 b1 => a1.length + b1.length
theorem mrg_one_left (x : α) (b1 b2 : List α) (h1 : ∀ y, y ∈ b1 → key y < key x) (h2 : ∀ y, y ∈ b2 → key x ≤ key y) : mrg key [x] (b1 ++ b2) = b1 ++ x :: b2 := by
  have h := mrg_split key [] b1 [x] b2 (fun z hz => by simp at hz) (fun y hy z hz => by rw [List.mem_singleton] at hz; subst hz; exact h1 y hy)
  rw [List.nil_append, mrg_nil_left] at h
  rw [h]
  cases b2 with
  | nil => rw [mrg_nil_right]
  | cons y b2 => rw [mrg, if_neg (by have := h2 y (by simp); omega), mrg_nil_left]
theorem mrg_one_right (y : α) (a1 a2 : List α) (h1 : ∀ x, x ∈ a1 → key x ≤ key y) (h2 : ∀ x, x ∈ a2 → key y < key x) : mrg key (a1 ++ a2) [y] = a1 ++ y :: a2 := by
  have h := mrg_split key a1 [] a2 [y] (fun x hx z hz => by rw [List.mem_singleton] at hz; subst hz; exact h1 x hx) (fun z hz => by simp at hz)
  rw [List.nil_append, mrg_nil_right] at h
  rw [h]
  cases a2 with
  | nil => rw [mrg_nil_left]
  | cons x a2 => rw [mrg, if_pos (h2 x (by simp)), mrg_nil_right]
theorem mrg_perm : ∀ (a b : List α), (mrg key a b).Perm (a ++ b)
  | [], b => by rw [mrg]; exact List.Perm.refl _
  | x :: a, [] => by rw [mrg]; simp
  | x :: a, y :: b => by
    rw [mrg]
    split
    · have ih := mrg_perm (x :: a) b
      exact (ih.cons y).trans List.perm_middle.symm
    · exact (mrg_perm a (y :: b)).cons x
theorem mrg_sorted : ∀ (a b : List α), Sorted key a → Sorted key b → Sorted key (mrg key a b)
  | [], b, _, h => by rw [mrg]; exact h
  | x :: a, [], h, _ => by rw [mrg]; exact h
  | x :: a, y :: b, ha, hb => by
    unfold Sorted at ha hb ⊢
    rw [mrg]
    have ha' := List.pairwise_cons.1 ha
    have hb' := List.pairwise_cons.1 hb
    split
    · rename_i hlt
      refine List.pairwise_cons.2 ⟨fun z hz => ?_, mrg_sorted (x :: a) b ha hb'.2⟩
      have := (mrg_perm key (x :: a) b).mem_iff.1 hz
      rcases List.mem_append.1 this with h | h
      · rcases List.mem_cons.1 h with rfl | h
        · omega
        · have := ha'.1 z h; omega
      · exact hb'.1 z h
    · rename_i hge
      refine List.pairwise_cons.2 ⟨fun z hz => ?_, mrg_sorted a (y :: b) ha'.2 hb⟩
      have := (mrg_perm key a (y :: b)).mem_iff.1 hz
      rcases List.mem_append.1 this with h | h
      · exact ha'.1 z h
      · rcases List.mem_cons.1 h with rfl | h
        · omega
        · have := hb'.1 z h; omega
theorem insR_mrg (s : List α) (x : α) : Sorted key s → insR key s x = mrg key s [x] := by
  intro hs
  induction s using snocRec with
  | h0 => rw [mrg_nil_left]; rfl
  | h1 s y ih =>
    unfold Sorted at hs
    have hs' := List.pairwise_append.1 hs
    by_cases h : key x < key y
    · rw [insR_snoc_lt key h, ih hs'.1]
      have := mrg_split key s [x] [y] [] (fun a ha b hb => by simp at hb) (fun a ha b hb => by rw [List.mem_singleton] at ha hb; subst ha; subst hb; exact h)
      rw [List.append_nil, mrg_nil_right] at this
      exact this.symm
    · rw [insR_snoc_ge key h]
      have := mrg_one_right key x (s ++ [y]) [] (fun a ha => by
        rcases List.mem_append.1 ha with ha | ha
        · have := hs'.2.2 a ha y (by simp); omega
        · rw [List.mem_singleton] at ha; subst ha; omega) (fun a ha => by simp at ha)
      rw [List.append_nil] at this
      rw [this]; simp
theorem isort_sorted (l : List α) : Sorted key (isort key l) := by
  induction l using snocRec with
  | h0 => exact List.Pairwise.nil
  | h1 l x ih =>
    rw [isort_snoc, insR_mrg key _ x ih]
    exact mrg_sorted key _ _ ih (List.pairwise_singleton _ _)
theorem insRev_perm : ∀ (l : List α) (x : α), (insRev key l x).Perm (x :: l)
  | [], x => List.Perm.refl _
  | y :: r, x => by
    unfold insRev
    split
    · exact ((insRev_perm r x).cons y).trans (List.Perm.swap x y r)
    · exact List.Perm.refl _
theorem insR_perm (s : List α) (x : α) : (insR key s x).Perm (x :: s) := by
  unfold insR
  exact (List.reverse_perm _).trans ((insRev_perm key s.reverse x).trans ((List.reverse_perm s).cons x))
theorem isort_perm (l : List α) : (isort key l).Perm l := by
  induction l using snocRec with
  | h0 => exact List.Perm.refl _
  | h1 l x ih =>
    rw [isort_snoc]
    exact (insR_perm key _ x).trans ((ih.cons x).trans (List.perm_append_comm (l₁ := [x]) (l₂ := l)))
/-- A list in order stays as it is. -/
theorem isort_id (l : List α) (h : Sorted key l) : isort key l = l := by
  induction l using snocRec with
  | h0 => rfl
  | h1 l x ih =>
    have h' := List.pairwise_append.1 h
    rw [isort_snoc, ih h'.1, insR_mrg key _ x h'.1]
    have := mrg_one_right key x l [] (fun a ha => h'.2.2 a ha x (by simp)) (fun a ha => by simp at ha)
    rw [List.append_nil] at this
    exact this
theorem mrg_app (a b : List α) (h : ∀ x, x ∈ a → ∀ y, y ∈ b → key x ≤ key y) : mrg key a b = a ++ b := by
  have := mrg_split key a [] [] b h (fun y hy => by simp at hy)
  rw [List.append_nil, List.nil_append, mrg_nil_left, mrg_nil_right] at this
  exact this
theorem mrg_assoc : ∀ (a b c : List α), Sorted key a → Sorted key b → Sorted key c → mrg key (mrg key a b) c = mrg key a (mrg key b c)
  | [], b, c, _, _, _ => by rw [mrg_nil_left, mrg_nil_left]
  | x :: a, [], c, _, _, _ => by rw [mrg_nil_right, mrg_nil_left]
  | x :: a, y :: b, [], _, _, _ => by rw [mrg_nil_right, mrg_nil_right]
  | x :: a, y :: b, z :: c, ha, hb, hc => by
    have ha' := List.pairwise_cons.1 ha
    have hb' := List.pairwise_cons.1 hb
    have hc' := List.pairwise_cons.1 hc
    by_cases h1 : key y < key x
    · have e1 : mrg key (x :: a) (y :: b) = y :: mrg key (x :: a) b := by rw [mrg, if_pos h1]
      by_cases h2 : key z < key y
      · have e2 : mrg key (y :: b) (z :: c) = z :: mrg key (y :: b) c := by rw [mrg, if_pos h2]
        have ih := mrg_assoc (x :: a) (y :: b) c ha hb hc'.2
        rw [e2, e1, mrg, if_pos h2, mrg, if_pos (by omega), ← e1, ih]
      · have e2 : mrg key (y :: b) (z :: c) = y :: mrg key b (z :: c) := by rw [mrg, if_neg h2]
        have ih := mrg_assoc (x :: a) b (z :: c) ha hb'.2 hc
        rw [e2, e1, mrg, if_neg h2, mrg, if_pos h1, ih]
    · have e1 : mrg key (x :: a) (y :: b) = x :: mrg key a (y :: b) := by rw [mrg, if_neg h1]
      by_cases h2 : key z < key y
      · have e2 : mrg key (y :: b) (z :: c) = z :: mrg key (y :: b) c := by rw [mrg, if_pos h2]
        by_cases h3 : key z < key x
        · have ih := mrg_assoc (x :: a) (y :: b) c ha hb hc'.2
          rw [e2, e1, mrg, if_pos h3, mrg, if_pos h3, ← e1, ih]
        · have ih := mrg_assoc a (y :: b) (z :: c) ha'.2 hb hc
          rw [e2, e1, mrg, if_neg h3, mrg, if_neg h3, ih, e2]
      · have e2 : mrg key (y :: b) (z :: c) = y :: mrg key b (z :: c) := by rw [mrg, if_neg h2]
        have ih := mrg_assoc a (y :: b) (z :: c) ha'.2 hb hc
        rw [e2, e1, mrg, if_neg (by omega), mrg, if_neg h1, ih, e2]
  termination_by a b c => a.length + b.length + c.length
theorem isort_app (a b : List α) : isort key (a ++ b) = mrg key (isort key a) (isort key b) := by
  induction b using snocRec with
  | h0 => rw [List.append_nil]; exact (mrg_nil_right key _).symm
  | h1 b x ih =>
    rw [← List.append_assoc, isort_snoc, ih, isort_snoc, insR_mrg key _ x (mrg_sorted key _ _ (isort_sorted key a) (isort_sorted key b)), insR_mrg key _ x (isort_sorted key b)]
    exact mrg_assoc key _ _ _ (isort_sorted key a) (isort_sorted key b) (List.pairwise_singleton _ _)
/-! ### swapping -/
variable {α : Type}
def swp (l : List α) (i j : Nat) : List α := match l[i]?, l[j]? with
  | some x, some y => (l.set i y).set j x
  | _, _ => l
theorem swp_some {l : List α} {i j : Nat} {x y : α} (hi : l[i]? = some x) (hj : l[j]? = some y) : swp l i j = (l.set i y).set j x := by
  unfold swp; rw [hi, hj]
theorem swp_length (l : List α) (i j : Nat) : (swp l i j).length = l.length := by
  unfold swp; split
  · simp
  · rfl
/-- n cells from a on against n cells from b on. -/
def swpN (l : List α) (a b : Nat) : Nat → List α
  | 0 => l
  | n + 1 => swpN (swp l a b) (a + 1) (b + 1) n
theorem swpN_length : ∀ (n : Nat) (l : List α) (a b : Nat), (swpN l a b n).length = l.length
  | 0, l, a, b => rfl
  | n + 1, l, a, b => by rw [swpN, swpN_length n, swp_length]
theorem set_mid (P S : List α) (x y : α) (i : Nat) (h : P.length = i) : (P ++ x :: S).set i y = P ++ y :: S := by
  subst h
  rw [List.set_append_right (h := Nat.le_refl _), Nat.sub_self]; rfl
theorem get_mid (P S : List α) (x : α) (i : Nat) (h : P.length = i) : (P ++ x :: S)[i]? = some x := by
  subst h
  rw [List.getElem?_append_right (Nat.le_refl _), Nat.sub_self]; rfl
theorem swp_mid (P M S : List α) (x y : α) : swp (P ++ x :: (M ++ y :: S)) P.length (P.length + (M.length + 1)) = P ++ y :: (M ++ x :: S) := by
  have e : ∀ (x y : α), P ++ x :: (M ++ y :: S) = (P ++ x :: M) ++ y :: S := fun x y => by simp
  have hl : ∀ x : α, (P ++ x :: M).length = P.length + (M.length + 1) := fun x => by simp
  rw [swp_some (get_mid P _ x _ rfl) (by rw [e]; exact get_mid _ _ _ _ (hl x)), set_mid P _ _ _ _ rfl, e, set_mid _ _ _ _ _ (hl y), e]
theorem swpN_mid : ∀ (U V P M S : List α), U.length = V.length → swpN (P ++ (U ++ (M ++ (V ++ S)))) P.length (P.length + U.length + M.length) U.length = P ++ (V ++ (M ++ (U ++ S)))
  | [], [], P, M, S, _ => rfl
  | [], v :: V, P, M, S, h => by simp at h
  | u :: U, [], P, M, S, h => by simp at h
  | u :: U, v :: V, P, M, S, h => by
    simp only [List.length_cons] at h
    have e1 : P ++ (u :: U ++ (M ++ (v :: V ++ S))) = P ++ u :: ((U ++ M) ++ v :: (V ++ S)) := by simp
    have e2 : P.length + (u :: U).length + M.length = P.length + ((U ++ M).length + 1) := by simp; omega
    rw [List.length_cons, swpN, ← (show (u :: U).length = U.length + 1 from rfl), e2, e1, swp_mid]
    have ih := swpN_mid U V (P ++ [v]) (M ++ [u]) S (by omega)
    simp only [List.length_append, List.length_singleton, List.append_assoc, List.singleton_append] at ih
    have e3 : P ++ v :: ((U ++ M) ++ u :: (V ++ S)) = P ++ v :: (U ++ (M ++ u :: (V ++ S))) := by simp
    have e4 : P.length + ((U ++ M).length + 1) + 1 = P.length + 1 + U.length + (M.length + 1) := by simp; omega
    rw [e3, e4, ih]
    simp
/-- What the loop of a rotation does: i cells ahead of m, j from m on. -/
def rotGo : Nat → List α → Nat → Nat → Nat → List α
  | 0, l, m, i, _ => swpN l (m - i) m i
  | k + 1, l, m, i, j => if i = j then swpN l (m - i) m i else if j < i then rotGo k (swpN l (m - i) m j) m (i - j) j else rotGo k (swpN l (m - i) (m + j - i) i) m i (j - i)
theorem rotGo_eq : ∀ (k : Nat) (U V P S : List α), 0 < U.length → 0 < V.length → U.length + V.length ≤ k + 2 → rotGo k (P ++ (U ++ (V ++ S))) (P.length + U.length) U.length V.length = P ++ (V ++ (U ++ S)) := by
  have base : ∀ (U V P S : List α), U.length = V.length → swpN (P ++ (U ++ (V ++ S))) (P.length + U.length - U.length) (P.length + U.length) U.length = P ++ (V ++ (U ++ S)) := by
    intro U V P S h
    have := swpN_mid U V P [] S h
    simp only [List.nil_append, List.length_nil, Nat.add_zero] at this
    rw [Nat.add_sub_cancel]
    exact this
  intro k
  induction k with
  | zero =>
    intro U V P S h1 h2 h3
    rw [rotGo]
    exact base U V P S (by omega)
  | succ k ih =>
    intro U V P S h1 h2 h3
    rw [rotGo]
    split
    · rename_i h; exact base U V P S h
    · rename_i hne
      split
      · rename_i hlt
        obtain ⟨U1, U2, hU, hl⟩ : ∃ U1 U2, U = U1 ++ U2 ∧ U1.length = V.length := ⟨U.take V.length, U.drop V.length, (List.take_append_drop _ _).symm, by rw [List.length_take]; omega⟩
        subst hU
        have e := swpN_mid U1 V P U2 S hl
        rw [hl] at e
        simp only [List.length_append] at hlt hne ⊢
        have e1 : P.length + (U1.length + U2.length) - (U1.length + U2.length) = P.length := by omega
        have e2 : P.length + (U1.length + U2.length) = P.length + V.length + U2.length := by omega
        have e3 : U1.length + U2.length - V.length = U2.length := by omega
        have e4 : P ++ (U1 ++ U2 ++ (V ++ S)) = P ++ (U1 ++ (U2 ++ (V ++ S))) := by simp
        rw [e1, e3, e4, e2, e]
        have ih' := ih U2 U1 (P ++ V) S (by omega) (by omega) (by simp only [List.length_append] at h3; omega)
        simp only [List.length_append, List.append_assoc] at ih'
        rw [hl] at ih'
        rw [ih']
        simp
      · rename_i hge
        obtain ⟨V1, V2, hV, hl⟩ : ∃ V1 V2, V = V1 ++ V2 ∧ U.length = V2.length := ⟨V.take (V.length - U.length), V.drop (V.length - U.length), (List.take_append_drop _ _).symm, by rw [List.length_drop]; omega⟩
        subst hV
        have e := swpN_mid U V2 P V1 S hl
        simp only [List.length_append] at hge hne ⊢
        have e1 : P.length + U.length - U.length = P.length := by omega
        have e2 : P.length + U.length + (V1.length + V2.length) - U.length = P.length + U.length + V1.length := by omega
        have e3 : V1.length + V2.length - U.length = V1.length := by omega
        have e4 : P ++ (U ++ (V1 ++ V2 ++ S)) = P ++ (U ++ (V1 ++ (V2 ++ S))) := by simp
        rw [e1, e2, e3, e4, e]
        have ih' := ih V2 V1 P (U ++ S) (by omega) (by omega) (by simp only [List.length_append] at h3; omega)
        rw [← hl] at ih'
        rw [ih']
        simp
end Go.Abs.Srt
/- Abs30: a function that has a contract of its own: values without addresses go in and come out, what lay stays. Conditions: none. -/
set_option maxRecDepth 100000
namespace Go.Abs
open Go.RowKit
theorem Post.of_below {G : Nat → Option Nat} {B : Nat} {E : Env} {h : AHeap} {w w' : World} (s : Sim G B E h w) (b : Below w.heap.size w w') : Post G B E E h h w w' := by
  have hk : ∀ (id : Nat) (o : AObj) e, h[id]? = some (some o) → E id = some e → w'.heap[e.blk]? = w.heap[e.blk]? := fun id o e h1 h2 => b.block _ (s.obj id o e h1 h2).lt
  refine ⟨Env.le.refl E, Nat.le_refl _, fun id hid => absurd rfl hid, ⟨fun id o e h1 h2 => (s.obj id o e h1 h2).mono (Env.le.refl E) (hk id o e h1 h2), s.low, s.apart, Nat.le_trans s.base b.size, s.glob⟩, b.os, b.tape, b.output, b.size, fun x hx _ => b.block x hx, fun x hx => .inl hx, fun id e h1 h2 => ?_⟩
  rw [h2] at h1; cases h1
def pureP (spec : List Value → Option Value) : List Value → AHeap → Option (Value × AHeap) := fun args h => (spec args).map fun v => (v, h)
/-- What is asked of a function that is known by its values alone. -/
def PureOK (P : Program) (f : FuncId) (spec : List Value → Option Value) : Prop := ∀ args v, spec args = some v → args.all (plainV 3) = true ∧ plainV 3 v = true ∧ ∀ w : World, CallOK P f args.toArray w fun e w' => e = .returned v ∧ Below w.heap.size w w'
theorem LR.plain_eq {E : Env} : ∀ {xs ys : List Value}, xs.all (plainV 3) = true → LR E xs ys → ys = xs
  | [], [], _, _ => rfl
  | [], _ :: _, _, h => absurd h.1 (by simp)
  | _ :: _, [], _, h => absurd h.1 (by simp)
  | x :: xs, y :: ys, hp, h => by
    simp only [List.all_cons, Bool.and_eq_true] at hp
    obtain ⟨h1, h2⟩ := h.uncons
    rw [VR.plain_eq 3 hp.1 h1, LR.plain_eq hp.2 h2]
theorem CallOK.mono {P : Program} {f : FuncId} {args : Array Value} {w : World} {R R' : Ending → World → Prop} (h : CallOK P f args w R) (hr : ∀ e w', R e w' → R' e w') : CallOK P f args w R' := by
  rcases h with ⟨h1, h2⟩ | ⟨v, w', h1, h2⟩
  · exact .inl ⟨h1, h2.mono hr⟩
  · exact .inr ⟨v, w', h1, hr _ _ h2⟩
theorem pure_len (spec : List Value → Option Value) : CallLen fun _ => pureP spec := by
  intro f args h v h' he
  simp only [pureP, Option.map_eq_some_iff] at he
  obtain ⟨u, _, hu⟩ := he
  cases hu
  exact Nat.le_refl _
theorem pure_ok {c : Ctx} {B : Nat} {f : FuncId} {spec : List Value → Option Value} (hs : PureOK c.P f spec) : ∀ args h v h', pureP spec args h = some (v, h') → ∀ E w args', Sim c.G B E h w → LR E args args' → Free E h h' →
    CallOK c.P f args'.toArray w fun e w' => ∃ E' v', e = .returned v' ∧ Post c.G B E E' h h' w w' ∧ VR E' v v' := by
  intro args h v h' he E w args' s hl _
  simp only [pureP, Option.map_eq_some_iff] at he
  obtain ⟨u, hu, hv⟩ := he
  cases hv
  obtain ⟨h1, h2, h3⟩ := hs args v hu
  rw [LR.plain_eq h1 hl]
  exact (h3 w).mono fun e w' ⟨he, hb⟩ => ⟨E, v, he, Post.of_below s hb, VR.plain E 3 v h2⟩
/-- A call of such a function. -/
theorem FW_prim {c : Ctx} {f : FuncId} {p : List Value → AHeap → Option (Value × AHeap)} {args : List Value} {h h' : AHeap} {v : Value} {Q : Value → AHeap → Prop} (hp : c.prim f = some p) (he : p args h = some (v, h')) (hq : Q v h') : FW c f args h Q := by
  refine ⟨v, h', evU_of (k := 1) ?_, hq⟩
  simp only [evF, hp, he]
theorem Quiet.prim {c : Ctx} {f : FuncId} {spec : List Value → Option Value} {args : List Value} {h : AHeap} {v : Value} (hp : c.prim f = some (pureP spec)) (he : spec args = some v) : Quiet c f args h v :=
  FW_prim hp (by simp only [pureP, he, Option.map_some]) ⟨rfl, Ext.refl _⟩
theorem callOK_of {P : Program} {f : FuncId} {fn : Func} {cd : Code} {args : Array Value} {w : World} {R : Ending → World → Prop} (hf : P.funcs[f]? = some fn) (hb : fn.body = some cd) (hn : (fn.name == "runtime.NumGoroutine") = false) (hc : Calls P f args w R) : CallOK P f args w R := by
  refine .inl ⟨?_, hc⟩
  have h1 : fn.name ≠ "runtime.NumGoroutine" := by simpa using hn
  simp [callFunc, hf, h1, hb, mark]
end Go.Abs
/- Srt2: rows of equal elements in one block. Conditions: none. -/
set_option linter.unusedVariables false
namespace Go.Abs.Srt
section
variable {α : Type} {f : α → List Value} {sz : Nat}
theorem row_le (hf : ∀ x, (f x).length = sz) {D : List α} {i : Nat} {x : α} (h : D[i]? = some x) : i * sz + sz ≤ (D.flatMap f).length := by
  rw [flatMap_len hf]
  have := (List.getElem?_eq_some_iff.1 h).1
  have := Nat.mul_le_mul_right sz this
  rw [Nat.succ_mul] at this
  exact this
theorem row_put (hf : ∀ x, (f x).length = sz) : ∀ (D : List α) (i : Nat) (y : α), i < D.length → putCells (D.flatMap f) (i * sz) (f y) = (D.set i y).flatMap f
  | [], i, y, h => by simp at h
  | x :: D, 0, y, h => by
    rw [putCells_eq _ _ _ (by rw [hf, List.flatMap_cons, List.length_append, hf]; omega)]
    rw [List.flatMap_cons, hf, List.set_cons_zero, List.flatMap_cons]
    rw [Nat.zero_mul, List.take_zero, List.nil_append, Nat.zero_add]
    have : (f x ++ D.flatMap f).drop sz = D.flatMap f := by
      rw [List.drop_append, List.drop_of_length_le (by rw [hf]; exact Nat.le_refl _), hf]; simp
    rw [this]
  | x :: D, i + 1, y, h => by
    have hi : i < D.length := by simpa using h
    have ih := row_put hf D i y hi
    have hl : i * sz + sz ≤ (D.flatMap f).length := row_le hf (List.getElem?_eq_getElem hi)
    rw [putCells_eq _ _ _ (by rw [hf]; exact hl)] at ih
    rw [putCells_eq _ _ _ (by rw [hf, List.flatMap_cons, List.length_append, hf, Nat.succ_mul]; omega)]
    rw [List.flatMap_cons, List.set_cons_succ, List.flatMap_cons, ← ih, hf, Nat.succ_mul]
    have e1 : (f x ++ D.flatMap f).take (i * sz + sz) = f x ++ (D.flatMap f).take (i * sz) := by
      rw [List.take_append, List.take_of_length_le (by rw [hf]; omega), hf, Nat.add_sub_cancel]
    have e2 : (f x ++ D.flatMap f).drop (i * sz + sz + sz) = (D.flatMap f).drop (i * sz + sz) := by
      rw [List.drop_append, List.drop_of_length_le (by rw [hf]; omega), hf]
      simp
    rw [e1, e2]
    simp only [List.append_assoc]
end
end Go.Abs.Srt
/- LnS: a line as it lies in the abstract heap. Conditions: none. -/
set_option maxRecDepth 100000
set_option linter.unusedVariables false
namespace Go.Abs
open Go.Proofs
@[reducible] noncomputable def cx : Ctx := { P := Try.prog, G := fun _ => none, prim := fun _ => none }
structure El where
  fin : Nat
  body : List UInt8
  at_ : Nat
def elE (x : El) : List Value := [.int .i64 x.fin, .string (str x.body), .int .i64 x.at_]
def keyE (x : El) : Int := x.at_
theorem elE_len (x : El) : (elE x).length = 3 := rfl
theorem elE_one (x : El) : (elE x).all oneCellA = true := rfl
def okE (x : El) : Prop := x.at_ < 2 ^ 40
/-- Fates without a number. -/
def fateE (k : Nat) : List Value := [.int .i64 k, .int .i64 0]
theorem fateE_len (k : Nat) : (fateE k).length = 2 := rfl
structure LnSt where
  delay : Nat
  now : Nat
  fates : List Nat
  again : Bool
  up : Bool
  next : Nat
  fly : List El
def slA (sb : Option Nat) : Option Addr := sb.map fun b => ⟨b, 0, none⟩
def ptrC (b : Nat) : Value := .pointer (some ⟨b, 0, none⟩)
def lineC (s : LnSt) (fv yv : Value) : List Value := [.int .i64 s.delay, .int .i64 s.now, fv, .bool s.again, .bool s.up, .int .i64 s.next, yv]
/-- A row that may be none. -/
def RowV (h : AHeap) (yb : Option Nat) (L : List El) : Prop := (yb = none ∧ L = []) ∨ ∃ b, yb = some b ∧ blkA h b = some ⟨L.flatMap elE, 3, false⟩
def foot (p : Nat) (yb : Option Nat) : List Nat := p :: yb.toList
structure LineAt (h : AHeap) (p : Nat) (fa : Option Addr) (fm : Nat) (yb : Option Nat) (s : LnSt) : Prop where
  top : blkA h p = some ⟨lineC s (.slice fa s.fates.length fm) (.slice (slA yb) s.fly.length s.fly.length), 7, false⟩
  fts : SlA fateE 2 false h fa s.fates
  fnil : fa = none → fm = 0
  fls : RowV h yb s.fly
  ny : yb ≠ some p
  nf : ∀ x, fa = some x → x.block ≠ p ∧ yb ≠ some x.block
theorem LineAt.lt {h : AHeap} {p : Nat} {fa : Option Addr} {fm : Nat} {yb : Option Nat} {s : LnSt} (a : LineAt h p fa fm yb s) : p < h.length := blkA_lt a.top
theorem RowV.same {h h' : AHeap} {yb : Option Nat} {L : List El} (r : RowV h yb L) (hs : ∀ b, yb = some b → h'[b]? = h[b]?) : RowV h' yb L := by
  rcases r with r | ⟨b, h1, h2⟩
  · exact .inl r
  · refine .inr ⟨b, h1, ?_⟩
    unfold blkA at h2 ⊢
    rw [hs b h1]; exact h2
theorem RowV.lt {h : AHeap} {yb : Option Nat} {L : List El} (r : RowV h yb L) {b : Nat} (hb : yb = some b) : b < h.length := by
  rcases r with ⟨h1, _⟩ | ⟨c, h1, h2⟩
  · rw [h1] at hb; cases hb
  · rw [h1] at hb; cases hb; exact blkA_lt h2
theorem SlA.same {α : Type} {f : α → List Value} {sz : Nat} {ro : Bool} {h h' : AHeap} {a : Option Addr} {l : List α} (s : SlA f sz ro h a l) (hs : ∀ x, a = some x → h'[x.block]? = h[x.block]?) : SlA f sz ro h' a l := by
  rcases s with s | ⟨b, o, cells, h1, h2, h3⟩
  · exact .inl s
  · refine .inr ⟨b, o, cells, h1, ?_, h3⟩
    unfold blkA at h2 ⊢
    rw [hs _ h1]; exact h2
theorem SlA.lt {α : Type} {f : α → List Value} {sz : Nat} {ro : Bool} {h : AHeap} {a : Option Addr} {l : List α} (s : SlA f sz ro h a l) {x : Addr} (hx : a = some x) : x.block < h.length := by
  rcases s with ⟨h1, _⟩ | ⟨b, o, cells, h1, h2, h3⟩
  · rw [h1] at hx; cases hx
  · rw [h1] at hx; cases hx; exact blkA_lt h2
section
variable {h h' : AHeap} {p : Nat} {fa : Option Addr} {fm : Nat} {yb yb' : Option Nat} {s s' : LnSt}
theorem LineAt.same (a : LineAt h p fa fm yb s) (hp : h'[p]? = h[p]?) (hy : ∀ b, yb = some b → h'[b]? = h[b]?) (hf : ∀ x, fa = some x → h'[x.block]? = h[x.block]?) : LineAt h' p fa fm yb s := by
  refine ⟨?_, a.fts.same hf, a.fnil, a.fls.same hy, a.ny, a.nf⟩
  have := a.top
  unfold blkA at this ⊢
  rw [hp]; exact this
theorem LineAt.ext (a : LineAt h p fa fm yb s) (e : Ext h h') : LineAt h' p fa fm yb s := a.same (e.get a.lt) (fun b hb => e.get (a.fls.lt hb)) (fun x hx => e.get (a.fts.lt hx))
theorem LineAt.app (a : LineAt h p fa fm yb s) (g : AHeap) : LineAt (h ++ g) p fa fm yb s := a.ext (.app h g)
theorem LineAt.set (a : LineAt h p fa fm yb s) (hf : s'.fates = s.fates) (hy : s'.fly = s.fly) : LineAt (h.set p (some (.cells ⟨lineC s' (.slice fa s'.fates.length fm) (.slice (slA yb) s'.fly.length s'.fly.length), 7, false⟩))) p fa fm yb s' := by
  refine ⟨blk_setB0 a.lt, ?_, a.fnil, ?_, a.ny, a.nf⟩
  · rw [hf]; exact a.fts.same fun x hx => List.getElem?_set_ne (fun e => (a.nf x hx).1 e.symm)
  · rw [hy]; exact a.fls.same fun b hb => List.getElem?_set_ne (fun e => a.ny (by rw [hb, e]))
/-- What is on its way lies elsewhere now. -/
theorem LineAt.row (a : LineAt h p fa fm yb s) (u : Upd h h' (foot p yb) (foot p yb')) (hf : s'.fates = s.fates) (ht : blkA h' p = some ⟨lineC s' (.slice fa s'.fates.length fm) (.slice (slA yb') s'.fly.length s'.fly.length), 7, false⟩) (hr : RowV h' yb' s'.fly) (hn : ∀ b, yb' = some b → h.length ≤ b) : LineAt h' p fa fm yb' s' := by
  refine ⟨ht, ?_, a.fnil, hr, fun e => ?_, fun x hx => ⟨(a.nf x hx).1, fun e => ?_⟩⟩
  · rw [hf]
    refine a.fts.same fun x hx => u.same _ (a.fts.lt hx) fun hm => ?_
    unfold foot at hm
    rcases List.mem_cons.1 hm with hm | hm
    · exact (a.nf x hx).1 hm
    · exact (a.nf x hx).2 (by simpa using hm)
  · have h1 := hn p e
    have h2 := a.lt
    omega
  · have h1 := hn _ e
    have h2 := a.fts.lt hx
    omega
end
end Go.Abs
/- Ln1: the comparison of two strings on their way. Conditions: none. -/
set_option maxRecDepth 100000
set_option linter.unusedSimpArgs false
set_option linter.unusedVariables false
namespace Go.Abs
open Go.Proofs
theorem cmp_q (x y : El) (hx : okE x) (hy : okE y) (h : AHeap) : Quiet cx 20 [.agg (elE x).toArray, .agg (elE y).toArray] h (.int .i64 (keyE x - keyE y)) := by
  refine FW_f Try.func20 rfl (by decide +kernel) ?_
  unfold okE at hx hy
  simp -dsimp -implicitDefEqProofs (disch := first | omega | (simp only [stT, u_1, ag_1, sz_1, by_1, ze_1, es_1, u_3, ag_3, sz_3, by_3, ze_3, es_3, u_9, ag_9, sz_9, by_9, ze_9, es_9, u_38, f_38_0, f_38_1, ag_38, sz_38, by_38, ze_38, pl_38, es_38, u_49, f_49_0, f_49_1, ag_49, sz_49, by_49, ze_49, pl_49, es_49]; done) | (simp only [List.append_assoc, List.cons_append, List.nil_append, pre_n, pre_c, pre_a, pre_g, pre_r]; done) | (simp only [List.length_set]; done) | (simp only [List.length_set]; omega) | assumption | decide +kernel | fail) only [↓RP, RQ, isConstA, Nat.reduceEqDiff, Nat.reduceLT, Nat.reduceAdd, Int.reduceNeg, Int.reduceLT, Int.reduceLE, Int.reduceToNat, Int.reduceEq, ↓reduceIte, ite_true, ite_false, Option.toList, Nat.reduceMul, Nat.reduceSub, Nat.reduceLeDiff, ne_eq, eq_self, u_1, ag_1, sz_1, by_1, ze_1, es_1, u_3, ag_3, sz_3, by_3, ze_3, es_3, u_9, ag_9, sz_9, by_9, ze_9, es_9, u_38, f_38_0, f_38_1, ag_38, sz_38, by_38, ze_38, pl_38, es_38, u_49, f_49_0, f_49_1, ag_49, sz_49, by_49, ze_49, pl_49, es_49, ↓AW_loop, elE, keyE]
  exact Ext.app _ _
end Go.Abs
/- Ln2: the walks of the library's stable sort: swapping of ranges, rotation. Conditions: none. -/
set_option maxRecDepth 100000
set_option linter.unusedSimpArgs false
set_option linter.unusedVariables false
namespace Go.Abs
open Go.Proofs Go.Abs.Srt
def RowAt (h : AHeap) (d : Nat) (D : List El) : Prop := blkA h d = some ⟨D.flatMap elE, 3, false⟩
theorem row_some {D : List El} {i : Nat} (h : i < D.length) : ∃ x, D[i]? = some x := ⟨_, List.getElem?_eq_getElem h⟩
theorem swpN_q (D : List El) (a b n : Nat) (c : Value) {h : AHeap} {d m : Nat} (hd : RowAt h d D) (hab : a + n ≤ b) (hb : b + n ≤ D.length) (hl : D.length < 2 ^ 40) :
    FW cx 25 [.slice (some ⟨d, 0, none⟩) D.length m, .int .i64 a, .int .i64 b, .int .i64 n, c] h fun v h' => v = .tuple #[] ∧ RowAt h' d (swpN D a b n) ∧ Upd h h' [d] [d] := by
  refine FW_f Try.func25 rfl (by decide +kernel) ?_
  simp -dsimp -implicitDefEqProofs (disch := first | omega | (simp only [stT, u_3, ag_3, sz_3, by_3, ze_3, es_3, u_9, ag_9, sz_9, by_9, ze_9, es_9, u_38, f_38_0, f_38_1, ag_38, sz_38, by_38, ze_38, pl_38, es_38, u_44, ag_44, sz_44, by_44, ze_44, es_44, u_49, f_49_0, f_49_1, ag_49, sz_49, by_49, ze_49, pl_49, es_49, u_53, ag_53, sz_53, by_53, ze_53, es_53]; done) | (simp only [List.append_assoc, List.cons_append, List.nil_append, pre_n, pre_c, pre_a, pre_g, pre_r]; done) | (simp only [List.length_set]; done) | (simp only [List.length_set]; omega) | assumption | decide +kernel | fail) only [↓RP, RQ, isConstA, Nat.reduceEqDiff, Nat.reduceLT, Nat.reduceAdd, Int.reduceNeg, Int.reduceLT, Int.reduceLE, Int.reduceToNat, Int.reduceEq, ↓reduceIte, ite_true, ite_false, Option.toList, Nat.reduceMul, Nat.reduceSub, Nat.reduceLeDiff, ne_eq, eq_self, u_3, ag_3, sz_3, by_3, ze_3, es_3, u_9, ag_9, sz_9, by_9, ze_9, es_9, u_38, f_38_0, f_38_1, ag_38, sz_38, by_38, ze_38, pl_38, es_38, u_44, ag_44, sz_44, by_44, ze_44, es_44, u_49, f_49_0, f_49_1, ag_49, sz_49, by_49, ze_49, pl_49, es_49, u_53, ag_53, sz_53, by_53, ze_53, es_53, ↓AW_loop]
  refine LW_rule (fun k fr h' => ∃ (i : Nat) (D' : List El), i ≤ n ∧ k = n - i ∧ fget fr 10 = .int .i64 i ∧ fget fr 0 = .slice (some ⟨d, 0, none⟩) D.length m ∧ fget fr 1 = .int .i64 a ∧ fget fr 2 = .int .i64 b ∧ fget fr 3 = .int .i64 n ∧ RowAt h' d D' ∧ D'.length = D.length ∧ swpN D' (a + i) (b + i) (n - i) = swpN D a b n ∧ Upd h h' [d] [d]) ?_ n _ _ ⟨0, D, by omega, rfl, ?_⟩
  · rintro k fr h' ⟨i, D', hi, hk, f10, f0, f1, f2, f3, hr, hdl, hsw, hu⟩
    by_cases hin : i < n
    · have hin' : (i : Int) < n := by omega
      obtain ⟨x, hx⟩ := row_some (D := D') (i := a + i) (by omega)
      obtain ⟨y, hy⟩ := row_some (D := D') (i := b + i) (by omega)
      have ha : (a : Int) + i = ((a + i : Nat) : Int) := by omega
      have hbi : (b : Int) + i = ((b + i : Nat) : Int) := by omega
      have q1 : ((a + i : Nat) : Int) < D.length := by omega
      have q2 : ((b + i : Nat) : Int) < D.length := by omega
      have l1 := row_le elE_len hx
      have l2 := row_le elE_len hy
      have c1 := flatMap_chunk elE_len D' _ _ hx
      have c2 := flatMap_chunk elE_len D' _ _ hy
      have p1 := row_put elE_len D' (a + i) y (by omega)
      have p2 := row_put elE_len (D'.set (a + i) y) (b + i) x (by rw [List.length_set]; omega)
      have l3 : (b + i) * 3 + 3 ≤ ((D'.set (a + i) y).flatMap elE).length := by rw [flatMap_len elE_len, List.length_set]; rw [flatMap_len elE_len] at l2; exact l2
      have hdlt := blkA_lt hr
      have hs0 : ∀ X, blkA (h'.set d (some (.cells X))) d = some X := fun X => blk_setB0 hdlt
      have o1 := elE_one x
      have o2 := elE_one y
      have e1 := elE_len x
      have e2 := elE_len y
      unfold RowAt at hr
      simp -dsimp -implicitDefEqProofs (disch := first | omega | (simp only [stT, u_3, ag_3, sz_3, by_3, ze_3, es_3, u_9, ag_9, sz_9, by_9, ze_9, es_9, u_38, f_38_0, f_38_1, ag_38, sz_38, by_38, ze_38, pl_38, es_38, u_44, ag_44, sz_44, by_44, ze_44, es_44, u_49, f_49_0, f_49_1, ag_49, sz_49, by_49, ze_49, pl_49, es_49, u_53, ag_53, sz_53, by_53, ze_53, es_53]; done) | (simp only [List.append_assoc, List.cons_append, List.nil_append, pre_n, pre_c, pre_a, pre_g, pre_r]; done) | (simp only [List.length_set]; done) | (simp only [List.length_set]; omega) | assumption | decide +kernel | fail) only [↓RP, RQ, isConstA, Nat.reduceEqDiff, Nat.reduceLT, Nat.reduceAdd, Int.reduceNeg, Int.reduceLT, Int.reduceLE, Int.reduceToNat, Int.reduceEq, ↓reduceIte, ite_true, ite_false, Option.toList, Nat.reduceMul, Nat.reduceSub, Nat.reduceLeDiff, ne_eq, eq_self, u_3, ag_3, sz_3, by_3, ze_3, es_3, u_9, ag_9, sz_9, by_9, ze_9, es_9, u_38, f_38_0, f_38_1, ag_38, sz_38, by_38, ze_38, pl_38, es_38, u_44, ag_44, sz_44, by_44, ze_44, es_44, u_49, f_49_0, f_49_1, ag_49, sz_49, by_49, ze_49, pl_49, es_49, u_53, ag_53, sz_53, by_53, ze_53, es_53, ↓AW_loop, f10, f0, f1, f2, f3, hin', hr, ha, hbi, q1, q2, l1, l2, c1, c2, p1, p2, l3, hs0, o1, o2, e1, e2, set_twice]
      refine ⟨by decide +kernel, ?_⟩
      refine ⟨n - (i + 1), by omega, i + 1, (D'.set (a + i) y).set (b + i) x, by omega, rfl, rfl, hs0 _, by rw [List.length_set, List.length_set]; exact hdl, ?_, hu.set (by simp)⟩
      rw [show n - i = (n - (i + 1)) + 1 by omega, swpN, swp_some hx hy] at hsw
      exact hsw
    · have hin' : ¬ (i : Int) < n := by omega
      simp -dsimp -implicitDefEqProofs (disch := first | omega | (simp only [stT, u_3, ag_3, sz_3, by_3, ze_3, es_3, u_9, ag_9, sz_9, by_9, ze_9, es_9, u_38, f_38_0, f_38_1, ag_38, sz_38, by_38, ze_38, pl_38, es_38, u_44, ag_44, sz_44, by_44, ze_44, es_44, u_49, f_49_0, f_49_1, ag_49, sz_49, by_49, ze_49, pl_49, es_49, u_53, ag_53, sz_53, by_53, ze_53, es_53]; done) | (simp only [List.append_assoc, List.cons_append, List.nil_append, pre_n, pre_c, pre_a, pre_g, pre_r]; done) | (simp only [List.length_set]; done) | (simp only [List.length_set]; omega) | assumption | decide +kernel | fail) only [↓RP, RQ, isConstA, Nat.reduceEqDiff, Nat.reduceLT, Nat.reduceAdd, Int.reduceNeg, Int.reduceLT, Int.reduceLE, Int.reduceToNat, Int.reduceEq, ↓reduceIte, ite_true, ite_false, Option.toList, Nat.reduceMul, Nat.reduceSub, Nat.reduceLeDiff, ne_eq, eq_self, u_3, ag_3, sz_3, by_3, ze_3, es_3, u_9, ag_9, sz_9, by_9, ze_9, es_9, u_38, f_38_0, f_38_1, ag_38, sz_38, by_38, ze_38, pl_38, es_38, u_44, ag_44, sz_44, by_44, ze_44, es_44, u_49, f_49_0, f_49_1, ag_49, sz_49, by_49, ze_49, pl_49, es_49, u_53, ag_53, sz_53, by_53, ze_53, es_53, ↓AW_loop, f10, f0, f1, f2, f3, hin']
      obtain rfl : i = n := by omega
      rw [Nat.sub_self, swpN] at hsw
      rw [hsw] at hr
      exact ⟨hr, hu⟩
  · simp -dsimp -implicitDefEqProofs (disch := first | omega | (simp only [stT, u_3, ag_3, sz_3, by_3, ze_3, es_3, u_9, ag_9, sz_9, by_9, ze_9, es_9, u_38, f_38_0, f_38_1, ag_38, sz_38, by_38, ze_38, pl_38, es_38, u_44, ag_44, sz_44, by_44, ze_44, es_44, u_49, f_49_0, f_49_1, ag_49, sz_49, by_49, ze_49, pl_49, es_49, u_53, ag_53, sz_53, by_53, ze_53, es_53]; done) | (simp only [List.append_assoc, List.cons_append, List.nil_append, pre_n, pre_c, pre_a, pre_g, pre_r]; done) | (simp only [List.length_set]; done) | (simp only [List.length_set]; omega) | assumption | decide +kernel | fail) only [↓RP, RQ, isConstA, Nat.reduceEqDiff, Nat.reduceLT, Nat.reduceAdd, Int.reduceNeg, Int.reduceLT, Int.reduceLE, Int.reduceToNat, Int.reduceEq, ↓reduceIte, ite_true, ite_false, Option.toList, Nat.reduceMul, Nat.reduceSub, Nat.reduceLeDiff, ne_eq, eq_self, u_3, ag_3, sz_3, by_3, ze_3, es_3, u_9, ag_9, sz_9, by_9, ze_9, es_9, u_38, f_38_0, f_38_1, ag_38, sz_38, by_38, ze_38, pl_38, es_38, u_44, ag_44, sz_44, by_44, ze_44, es_44, u_49, f_49_0, f_49_1, ag_49, sz_49, by_49, ze_49, pl_49, es_49, u_53, ag_53, sz_53, by_53, ze_53, es_53, ↓AW_loop]
    exact ⟨hd, Upd.refl _ _⟩
theorem rotate_q (D : List El) (a m b : Nat) (c : Value) {h : AHeap} {d z : Nat} (hd : RowAt h d D) (ham : a < m) (hmb : m < b) (hb : b ≤ D.length) (hl : D.length < 2 ^ 40) :
    FW cx 24 [.slice (some ⟨d, 0, none⟩) D.length z, .int .i64 a, .int .i64 m, .int .i64 b, c] h fun v h' => v = .tuple #[] ∧ RowAt h' d (rotGo (b - a) D m (m - a) (b - m)) ∧ Upd h h' [d] [d] := by
  refine FW_f Try.func24 rfl (by decide +kernel) ?_
  have s1 : (m : Int) - a = ((m - a : Nat) : Int) := by omega
  have s2 : (b : Int) - m = ((b - m : Nat) : Int) := by omega
  simp -dsimp -implicitDefEqProofs (disch := first | omega | (simp only [stT, u_3, ag_3, sz_3, by_3, ze_3, es_3, u_9, ag_9, sz_9, by_9, ze_9, es_9, u_38, f_38_0, f_38_1, ag_38, sz_38, by_38, ze_38, pl_38, es_38, u_44, ag_44, sz_44, by_44, ze_44, es_44, u_49, f_49_0, f_49_1, ag_49, sz_49, by_49, ze_49, pl_49, es_49, u_53, ag_53, sz_53, by_53, ze_53, es_53]; done) | (simp only [List.append_assoc, List.cons_append, List.nil_append, pre_n, pre_c, pre_a, pre_g, pre_r]; done) | (simp only [List.length_set]; done) | (simp only [List.length_set]; omega) | assumption | decide +kernel | fail) only [↓RP, RQ, isConstA, Nat.reduceEqDiff, Nat.reduceLT, Nat.reduceAdd, Int.reduceNeg, Int.reduceLT, Int.reduceLE, Int.reduceToNat, Int.reduceEq, ↓reduceIte, ite_true, ite_false, Option.toList, Nat.reduceMul, Nat.reduceSub, Nat.reduceLeDiff, ne_eq, eq_self, u_3, ag_3, sz_3, by_3, ze_3, es_3, u_9, ag_9, sz_9, by_9, ze_9, es_9, u_38, f_38_0, f_38_1, ag_38, sz_38, by_38, ze_38, pl_38, es_38, u_44, ag_44, sz_44, by_44, ze_44, es_44, u_49, f_49_0, f_49_1, ag_49, sz_49, by_49, ze_49, pl_49, es_49, u_53, ag_53, sz_53, by_53, ze_53, es_53, ↓AW_loop, s1, s2]
  obtain ⟨R, hR⟩ : ∃ R, rotGo (b - a) D m (m - a) (b - m) = R := ⟨_, rfl⟩
  rw [hR]
  refine LW_rule (fun n fr h' => ∃ (i j k : Nat) (D' : List El), n = i + j ∧ 0 < i ∧ 0 < j ∧ i ≤ m ∧ m + j ≤ D.length ∧ i + j ≤ k + 2 ∧ fget fr 10 = .int .i64 i ∧ fget fr 11 = .int .i64 j ∧ fget fr 0 = .slice (some ⟨d, 0, none⟩) D.length z ∧ fget fr 2 = .int .i64 m ∧ fget fr 4 = c ∧ RowAt h' d D' ∧ D'.length = D.length ∧ rotGo k D' m i j = R ∧ Upd h h' [d] [d]) ?_ (m - a + (b - m)) _ _ ⟨m - a, b - m, b - a, D, rfl, by omega, by omega, by omega, by omega, by omega, ?_⟩
  · rintro n fr h' ⟨i, j, k, D', hn, hi, hj, him, hmj, hk, f10, f11, f0, f2, f4, hr, hdl, hgo, hu⟩
    have fin : i = j → swpN D' (m - i) m i = R := by
      intro hij
      cases k with
      | zero => rw [rotGo] at hgo; exact hgo
      | succ k => rw [rotGo, if_pos hij] at hgo; exact hgo
    by_cases hij : i = j
    · have hij' : (i : Int) = j := by omega
      have s3 : (m : Int) - i = ((m - i : Nat) : Int) := by omega
      have s4 : (m : Int) - j = ((m - j : Nat) : Int) := by omega
      simp -dsimp -implicitDefEqProofs (disch := first | omega | (simp only [stT, u_3, ag_3, sz_3, by_3, ze_3, es_3, u_9, ag_9, sz_9, by_9, ze_9, es_9, u_38, f_38_0, f_38_1, ag_38, sz_38, by_38, ze_38, pl_38, es_38, u_44, ag_44, sz_44, by_44, ze_44, es_44, u_49, f_49_0, f_49_1, ag_49, sz_49, by_49, ze_49, pl_49, es_49, u_53, ag_53, sz_53, by_53, ze_53, es_53]; done) | (simp only [List.append_assoc, List.cons_append, List.nil_append, pre_n, pre_c, pre_a, pre_g, pre_r]; done) | (simp only [List.length_set]; done) | (simp only [List.length_set]; omega) | assumption | decide +kernel | fail) only [↓RP, RQ, isConstA, Nat.reduceEqDiff, Nat.reduceLT, Nat.reduceAdd, Int.reduceNeg, Int.reduceLT, Int.reduceLE, Int.reduceToNat, Int.reduceEq, ↓reduceIte, ite_true, ite_false, Option.toList, Nat.reduceMul, Nat.reduceSub, Nat.reduceLeDiff, ne_eq, eq_self, u_3, ag_3, sz_3, by_3, ze_3, es_3, u_9, ag_9, sz_9, by_9, ze_9, es_9, u_38, f_38_0, f_38_1, ag_38, sz_38, by_38, ze_38, pl_38, es_38, u_44, ag_44, sz_44, by_44, ze_44, es_44, u_49, f_49_0, f_49_1, ag_49, sz_49, by_49, ze_49, pl_49, es_49, u_53, ag_53, sz_53, by_53, ze_53, es_53, ↓AW_loop, f10, f11, f0, f2, f4, hij', s3, s4]
      have hq := swpN_q D' (m - i) m i c (m := z) hr (by omega) (by omega) (by omega)
      rw [hdl] at hq
      subst hij
      refine FW.mono hq (fun v h2 hv => ?_)
      obtain ⟨rfl, r2, u2⟩ := hv
      rw [fin rfl] at r2
      simp -dsimp -implicitDefEqProofs (disch := first | omega | (simp only [stT, u_3, ag_3, sz_3, by_3, ze_3, es_3, u_9, ag_9, sz_9, by_9, ze_9, es_9, u_38, f_38_0, f_38_1, ag_38, sz_38, by_38, ze_38, pl_38, es_38, u_44, ag_44, sz_44, by_44, ze_44, es_44, u_49, f_49_0, f_49_1, ag_49, sz_49, by_49, ze_49, pl_49, es_49, u_53, ag_53, sz_53, by_53, ze_53, es_53]; done) | (simp only [List.append_assoc, List.cons_append, List.nil_append, pre_n, pre_c, pre_a, pre_g, pre_r]; done) | (simp only [List.length_set]; done) | (simp only [List.length_set]; omega) | assumption | decide +kernel | fail) only [↓RP, RQ, isConstA, Nat.reduceEqDiff, Nat.reduceLT, Nat.reduceAdd, Int.reduceNeg, Int.reduceLT, Int.reduceLE, Int.reduceToNat, Int.reduceEq, ↓reduceIte, ite_true, ite_false, Option.toList, Nat.reduceMul, Nat.reduceSub, Nat.reduceLeDiff, ne_eq, eq_self, u_3, ag_3, sz_3, by_3, ze_3, es_3, u_9, ag_9, sz_9, by_9, ze_9, es_9, u_38, f_38_0, f_38_1, ag_38, sz_38, by_38, ze_38, pl_38, es_38, u_44, ag_44, sz_44, by_44, ze_44, es_44, u_49, f_49_0, f_49_1, ag_49, sz_49, by_49, ze_49, pl_49, es_49, u_53, ag_53, sz_53, by_53, ze_53, es_53, ↓AW_loop, f10, f11, f0, f2, f4]
      exact ⟨r2, hu.trans u2⟩
    · have hij' : ¬ (i : Int) = j := by omega
      cases k with
      | zero => omega
      | succ k =>
        rw [rotGo, if_neg hij] at hgo
        by_cases hlt : j < i
        · have hlt' : (j : Int) < i := by omega
          have s3 : (m : Int) - i = ((m - i : Nat) : Int) := by omega
          have s5 : (i : Int) - j = ((i - j : Nat) : Int) := by omega
          rw [if_pos hlt] at hgo
          simp -dsimp -implicitDefEqProofs (disch := first | omega | (simp only [stT, u_3, ag_3, sz_3, by_3, ze_3, es_3, u_9, ag_9, sz_9, by_9, ze_9, es_9, u_38, f_38_0, f_38_1, ag_38, sz_38, by_38, ze_38, pl_38, es_38, u_44, ag_44, sz_44, by_44, ze_44, es_44, u_49, f_49_0, f_49_1, ag_49, sz_49, by_49, ze_49, pl_49, es_49, u_53, ag_53, sz_53, by_53, ze_53, es_53]; done) | (simp only [List.append_assoc, List.cons_append, List.nil_append, pre_n, pre_c, pre_a, pre_g, pre_r]; done) | (simp only [List.length_set]; done) | (simp only [List.length_set]; omega) | assumption | decide +kernel | fail) only [↓RP, RQ, isConstA, Nat.reduceEqDiff, Nat.reduceLT, Nat.reduceAdd, Int.reduceNeg, Int.reduceLT, Int.reduceLE, Int.reduceToNat, Int.reduceEq, ↓reduceIte, ite_true, ite_false, Option.toList, Nat.reduceMul, Nat.reduceSub, Nat.reduceLeDiff, ne_eq, eq_self, u_3, ag_3, sz_3, by_3, ze_3, es_3, u_9, ag_9, sz_9, by_9, ze_9, es_9, u_38, f_38_0, f_38_1, ag_38, sz_38, by_38, ze_38, pl_38, es_38, u_44, ag_44, sz_44, by_44, ze_44, es_44, u_49, f_49_0, f_49_1, ag_49, sz_49, by_49, ze_49, pl_49, es_49, u_53, ag_53, sz_53, by_53, ze_53, es_53, ↓AW_loop, f10, f11, f0, f2, f4, hij', hlt', s3, s5]
          have hq := swpN_q D' (m - i) m j c (m := z) hr (by omega) (by omega) (by omega)
          rw [hdl] at hq
          refine FW.mono hq (fun v h2 hv => ?_)
          obtain ⟨rfl, r2, u2⟩ := hv
          have hl2 : (swpN D' (m - i) m j).length = D.length := by rw [swpN_length]; exact hdl
          simp -dsimp -implicitDefEqProofs (disch := first | omega | (simp only [stT, u_3, ag_3, sz_3, by_3, ze_3, es_3, u_9, ag_9, sz_9, by_9, ze_9, es_9, u_38, f_38_0, f_38_1, ag_38, sz_38, by_38, ze_38, pl_38, es_38, u_44, ag_44, sz_44, by_44, ze_44, es_44, u_49, f_49_0, f_49_1, ag_49, sz_49, by_49, ze_49, pl_49, es_49, u_53, ag_53, sz_53, by_53, ze_53, es_53]; done) | (simp only [List.append_assoc, List.cons_append, List.nil_append, pre_n, pre_c, pre_a, pre_g, pre_r]; done) | (simp only [List.length_set]; done) | (simp only [List.length_set]; omega) | assumption | decide +kernel | fail) only [↓RP, RQ, isConstA, Nat.reduceEqDiff, Nat.reduceLT, Nat.reduceAdd, Int.reduceNeg, Int.reduceLT, Int.reduceLE, Int.reduceToNat, Int.reduceEq, ↓reduceIte, ite_true, ite_false, Option.toList, Nat.reduceMul, Nat.reduceSub, Nat.reduceLeDiff, ne_eq, eq_self, u_3, ag_3, sz_3, by_3, ze_3, es_3, u_9, ag_9, sz_9, by_9, ze_9, es_9, u_38, f_38_0, f_38_1, ag_38, sz_38, by_38, ze_38, pl_38, es_38, u_44, ag_44, sz_44, by_44, ze_44, es_44, u_49, f_49_0, f_49_1, ag_49, sz_49, by_49, ze_49, pl_49, es_49, u_53, ag_53, sz_53, by_53, ze_53, es_53, ↓AW_loop, f10, f11, f0, f2, f4, s5]
          exact ⟨i - j + j, by omega, i - j, j, k, _, rfl, by omega, hj, by omega, hmj, by omega, rfl, rfl, r2, hl2, hgo, hu.trans u2⟩
        · have hlt' : ¬ (j : Int) < i := by omega
          have s3 : (m : Int) - i = ((m - i : Nat) : Int) := by omega
          have s6 : (m : Int) + j = ((m + j : Nat) : Int) := by omega
          have s7 : ((m + j : Nat) : Int) - i = ((m + j - i : Nat) : Int) := by omega
          have s5 : (j : Int) - i = ((j - i : Nat) : Int) := by omega
          rw [if_neg hlt] at hgo
          simp -dsimp -implicitDefEqProofs (disch := first | omega | (simp only [stT, u_3, ag_3, sz_3, by_3, ze_3, es_3, u_9, ag_9, sz_9, by_9, ze_9, es_9, u_38, f_38_0, f_38_1, ag_38, sz_38, by_38, ze_38, pl_38, es_38, u_44, ag_44, sz_44, by_44, ze_44, es_44, u_49, f_49_0, f_49_1, ag_49, sz_49, by_49, ze_49, pl_49, es_49, u_53, ag_53, sz_53, by_53, ze_53, es_53]; done) | (simp only [List.append_assoc, List.cons_append, List.nil_append, pre_n, pre_c, pre_a, pre_g, pre_r]; done) | (simp only [List.length_set]; done) | (simp only [List.length_set]; omega) | assumption | decide +kernel | fail) only [↓RP, RQ, isConstA, Nat.reduceEqDiff, Nat.reduceLT, Nat.reduceAdd, Int.reduceNeg, Int.reduceLT, Int.reduceLE, Int.reduceToNat, Int.reduceEq, ↓reduceIte, ite_true, ite_false, Option.toList, Nat.reduceMul, Nat.reduceSub, Nat.reduceLeDiff, ne_eq, eq_self, u_3, ag_3, sz_3, by_3, ze_3, es_3, u_9, ag_9, sz_9, by_9, ze_9, es_9, u_38, f_38_0, f_38_1, ag_38, sz_38, by_38, ze_38, pl_38, es_38, u_44, ag_44, sz_44, by_44, ze_44, es_44, u_49, f_49_0, f_49_1, ag_49, sz_49, by_49, ze_49, pl_49, es_49, u_53, ag_53, sz_53, by_53, ze_53, es_53, ↓AW_loop, f10, f11, f0, f2, f4, hij', hlt', s3, s5, s6, s7]
          have hq := swpN_q D' (m - i) (m + j - i) i c (m := z) hr (by omega) (by omega) (by omega)
          rw [hdl] at hq
          refine FW.mono hq (fun v h2 hv => ?_)
          obtain ⟨rfl, r2, u2⟩ := hv
          have hl2 : (swpN D' (m - i) (m + j - i) i).length = D.length := by rw [swpN_length]; exact hdl
          simp -dsimp -implicitDefEqProofs (disch := first | omega | (simp only [stT, u_3, ag_3, sz_3, by_3, ze_3, es_3, u_9, ag_9, sz_9, by_9, ze_9, es_9, u_38, f_38_0, f_38_1, ag_38, sz_38, by_38, ze_38, pl_38, es_38, u_44, ag_44, sz_44, by_44, ze_44, es_44, u_49, f_49_0, f_49_1, ag_49, sz_49, by_49, ze_49, pl_49, es_49, u_53, ag_53, sz_53, by_53, ze_53, es_53]; done) | (simp only [List.append_assoc, List.cons_append, List.nil_append, pre_n, pre_c, pre_a, pre_g, pre_r]; done) | (simp only [List.length_set]; done) | (simp only [List.length_set]; omega) | assumption | decide +kernel | fail) only [↓RP, RQ, isConstA, Nat.reduceEqDiff, Nat.reduceLT, Nat.reduceAdd, Int.reduceNeg, Int.reduceLT, Int.reduceLE, Int.reduceToNat, Int.reduceEq, ↓reduceIte, ite_true, ite_false, Option.toList, Nat.reduceMul, Nat.reduceSub, Nat.reduceLeDiff, ne_eq, eq_self, u_3, ag_3, sz_3, by_3, ze_3, es_3, u_9, ag_9, sz_9, by_9, ze_9, es_9, u_38, f_38_0, f_38_1, ag_38, sz_38, by_38, ze_38, pl_38, es_38, u_44, ag_44, sz_44, by_44, ze_44, es_44, u_49, f_49_0, f_49_1, ag_49, sz_49, by_49, ze_49, pl_49, es_49, u_53, ag_53, sz_53, by_53, ze_53, es_53, ↓AW_loop, f10, f11, f0, f2, f4, s5]
          exact ⟨i + (j - i), by omega, i, j - i, k, _, rfl, hi, by omega, him, by omega, by omega, rfl, rfl, r2, hl2, hgo, hu.trans u2⟩
  · simp -dsimp -implicitDefEqProofs (disch := first | omega | (simp only [stT, u_3, ag_3, sz_3, by_3, ze_3, es_3, u_9, ag_9, sz_9, by_9, ze_9, es_9, u_38, f_38_0, f_38_1, ag_38, sz_38, by_38, ze_38, pl_38, es_38, u_44, ag_44, sz_44, by_44, ze_44, es_44, u_49, f_49_0, f_49_1, ag_49, sz_49, by_49, ze_49, pl_49, es_49, u_53, ag_53, sz_53, by_53, ze_53, es_53]; done) | (simp only [List.append_assoc, List.cons_append, List.nil_append, pre_n, pre_c, pre_a, pre_g, pre_r]; done) | (simp only [List.length_set]; done) | (simp only [List.length_set]; omega) | assumption | decide +kernel | fail) only [↓RP, RQ, isConstA, Nat.reduceEqDiff, Nat.reduceLT, Nat.reduceAdd, Int.reduceNeg, Int.reduceLT, Int.reduceLE, Int.reduceToNat, Int.reduceEq, ↓reduceIte, ite_true, ite_false, Option.toList, Nat.reduceMul, Nat.reduceSub, Nat.reduceLeDiff, ne_eq, eq_self, u_3, ag_3, sz_3, by_3, ze_3, es_3, u_9, ag_9, sz_9, by_9, ze_9, es_9, u_38, f_38_0, f_38_1, ag_38, sz_38, by_38, ze_38, pl_38, es_38, u_44, ag_44, sz_44, by_44, ze_44, es_44, u_49, f_49_0, f_49_1, ag_49, sz_49, by_49, ze_49, pl_49, es_49, u_53, ag_53, sz_53, by_53, ze_53, es_53, ↓AW_loop]
    exact ⟨hd, hR, Upd.refl _ _⟩
/-- Rotation, of lists. -/
theorem rotate_l (P U V S : List El) (c : Value) {h : AHeap} {d z a m b : Nat} (hd : RowAt h d (P ++ (U ++ (V ++ S)))) (ha : a = P.length) (hm : m = a + U.length) (hb : b = m + V.length) (hu : 0 < U.length) (hv : 0 < V.length) (hl : (P ++ (U ++ (V ++ S))).length < 2 ^ 40) :
    FW cx 24 [.slice (some ⟨d, 0, none⟩) (P ++ (U ++ (V ++ S))).length z, .int .i64 a, .int .i64 m, .int .i64 b, c] h fun v h' => v = .tuple #[] ∧ RowAt h' d (P ++ (V ++ (U ++ S))) ∧ Upd h h' [d] [d] := by
  have hq := rotate_q (P ++ (U ++ (V ++ S))) a m b c (z := z) hd (by omega) (by omega) (by simp only [List.length_append]; omega) hl
  have e := rotGo_eq (b - a) U V P S hu hv (by omega)
  rw [show m - a = U.length by omega, show b - m = V.length by omega, show m = P.length + U.length by omega, e] at hq
  rw [show m = P.length + U.length by omega]
  exact hq
end Go.Abs
/- Ln3: the walks of the library's stable sort: insertion. Conditions: none. -/
set_option maxRecDepth 100000
set_option linter.unusedSimpArgs false
set_option linter.unusedVariables false
namespace Go.Abs
open Go.Proofs Go.Abs.Srt
def cmpV : Value := .func (.func 20) #[] #[]
theorem swap_adj {α : Type} (Q R : List α) (x y : α) : ((Q ++ y :: x :: R).set (Q.length + 1) y).set Q.length x = Q ++ x :: y :: R := by
  have e : ∀ x y : α, Q ++ y :: x :: R = (Q ++ [y]) ++ x :: R := fun x y => by simp
  rw [e, set_mid (Q ++ [y]) R x y (Q.length + 1) (by simp), ← e, set_mid Q _ y x _ rfl]
theorem get_adj {α : Type} (Q R : List α) (x y : α) : (Q ++ y :: x :: R)[Q.length]? = some y ∧ (Q ++ y :: x :: R)[Q.length + 1]? = some x := by
  refine ⟨get_mid Q _ y _ rfl, ?_⟩
  have e : Q ++ y :: x :: R = (Q ++ [y]) ++ x :: R := by simp
  rw [e]; exact get_mid _ _ _ _ (by simp)
theorem insort_q (P L S : List El) {h : AHeap} {d z a b : Nat} (hd : RowAt h d (P ++ (L ++ S))) (ha : a = P.length) (hb : b = a + L.length) (hok : ∀ x, x ∈ L → okE x) (hl : (P ++ (L ++ S)).length < 2 ^ 40) :
    FW cx 22 [.slice (some ⟨d, 0, none⟩) (P ++ (L ++ S)).length z, .int .i64 a, .int .i64 b, cmpV] h fun v h' => v = .tuple #[] ∧ RowAt h' d (P ++ (isort keyE L ++ S)) ∧ Upd h h' [d] [d] := by
  refine FW_f Try.func22 rfl (by decide +kernel) ?_
  have hNl : P.length + (L.length + S.length) = (P ++ (L ++ S)).length := by simp only [List.length_append]
  obtain ⟨N, hN⟩ : ∃ N, (P ++ (L ++ S)).length = N := ⟨_, rfl⟩
  rw [hN] at hl hNl ⊢
  cases L with
  | nil =>
    have hab : ¬ (a : Int) + 1 < b := by simp only [List.length_nil] at hb; omega
    simp -dsimp -implicitDefEqProofs (disch := first | omega | (simp only [stT, u_3, ag_3, sz_3, by_3, ze_3, es_3, u_9, ag_9, sz_9, by_9, ze_9, es_9, u_38, f_38_0, f_38_1, ag_38, sz_38, by_38, ze_38, pl_38, es_38, u_44, ag_44, sz_44, by_44, ze_44, es_44, u_49, f_49_0, f_49_1, ag_49, sz_49, by_49, ze_49, pl_49, es_49, u_53, ag_53, sz_53, by_53, ze_53, es_53]; done) | (simp only [List.append_assoc, List.cons_append, List.nil_append, pre_n, pre_c, pre_a, pre_g, pre_r]; done) | (simp only [List.length_set]; done) | (simp only [List.length_set]; omega) | assumption | decide +kernel | fail) only [↓RP, RQ, isConstA, Nat.reduceEqDiff, Nat.reduceLT, Nat.reduceAdd, Int.reduceNeg, Int.reduceLT, Int.reduceLE, Int.reduceToNat, Int.reduceEq, ↓reduceIte, ite_true, ite_false, Option.toList, Nat.reduceMul, Nat.reduceSub, Nat.reduceLeDiff, ne_eq, eq_self, u_3, ag_3, sz_3, by_3, ze_3, es_3, u_9, ag_9, sz_9, by_9, ze_9, es_9, u_38, f_38_0, f_38_1, ag_38, sz_38, by_38, ze_38, pl_38, es_38, u_44, ag_44, sz_44, by_44, ze_44, es_44, u_49, f_49_0, f_49_1, ag_49, sz_49, by_49, ze_49, pl_49, es_49, u_53, ag_53, sz_53, by_53, ze_53, es_53, ↓AW_loop]
    refine LW_rule (fun n fr h' => fget fr 8 = .int .i64 ((a + 1 : Nat) : Int) ∧ fget fr 2 = .int .i64 b ∧ h' = h) ?_ 0 _ _ ⟨by congr 1, rfl, rfl⟩
    rintro n fr h' ⟨f8, f2, rfl⟩
    have hab' : ¬ ((a + 1 : Nat) : Int) < b := by omega
    simp -dsimp -implicitDefEqProofs (disch := first | omega | (simp only [stT, u_3, ag_3, sz_3, by_3, ze_3, es_3, u_9, ag_9, sz_9, by_9, ze_9, es_9, u_38, f_38_0, f_38_1, ag_38, sz_38, by_38, ze_38, pl_38, es_38, u_44, ag_44, sz_44, by_44, ze_44, es_44, u_49, f_49_0, f_49_1, ag_49, sz_49, by_49, ze_49, pl_49, es_49, u_53, ag_53, sz_53, by_53, ze_53, es_53]; done) | (simp only [List.append_assoc, List.cons_append, List.nil_append, pre_n, pre_c, pre_a, pre_g, pre_r]; done) | (simp only [List.length_set]; done) | (simp only [List.length_set]; omega) | assumption | decide +kernel | fail) only [↓RP, RQ, isConstA, Nat.reduceEqDiff, Nat.reduceLT, Nat.reduceAdd, Int.reduceNeg, Int.reduceLT, Int.reduceLE, Int.reduceToNat, Int.reduceEq, ↓reduceIte, ite_true, ite_false, Option.toList, Nat.reduceMul, Nat.reduceSub, Nat.reduceLeDiff, ne_eq, eq_self, u_3, ag_3, sz_3, by_3, ze_3, es_3, u_9, ag_9, sz_9, by_9, ze_9, es_9, u_38, f_38_0, f_38_1, ag_38, sz_38, by_38, ze_38, pl_38, es_38, u_44, ag_44, sz_44, by_44, ze_44, es_44, u_49, f_49_0, f_49_1, ag_49, sz_49, by_49, ze_49, pl_49, es_49, u_53, ag_53, sz_53, by_53, ze_53, es_53, ↓AW_loop, f8, f2, hab']
    exact ⟨hd, Upd.refl _ _⟩
  | cons x0 L0 =>
    have h1 : (a : Int) + 1 = ((a + 1 : Nat) : Int) := by omega
    simp -dsimp -implicitDefEqProofs (disch := first | omega | (simp only [stT, u_3, ag_3, sz_3, by_3, ze_3, es_3, u_9, ag_9, sz_9, by_9, ze_9, es_9, u_38, f_38_0, f_38_1, ag_38, sz_38, by_38, ze_38, pl_38, es_38, u_44, ag_44, sz_44, by_44, ze_44, es_44, u_49, f_49_0, f_49_1, ag_49, sz_49, by_49, ze_49, pl_49, es_49, u_53, ag_53, sz_53, by_53, ze_53, es_53]; done) | (simp only [List.append_assoc, List.cons_append, List.nil_append, pre_n, pre_c, pre_a, pre_g, pre_r]; done) | (simp only [List.length_set]; done) | (simp only [List.length_set]; omega) | assumption | decide +kernel | fail) only [↓RP, RQ, isConstA, Nat.reduceEqDiff, Nat.reduceLT, Nat.reduceAdd, Int.reduceNeg, Int.reduceLT, Int.reduceLE, Int.reduceToNat, Int.reduceEq, ↓reduceIte, ite_true, ite_false, Option.toList, Nat.reduceMul, Nat.reduceSub, Nat.reduceLeDiff, ne_eq, eq_self, u_3, ag_3, sz_3, by_3, ze_3, es_3, u_9, ag_9, sz_9, by_9, ze_9, es_9, u_38, f_38_0, f_38_1, ag_38, sz_38, by_38, ze_38, pl_38, es_38, u_44, ag_44, sz_44, by_44, ze_44, es_44, u_49, f_49_0, f_49_1, ag_49, sz_49, by_49, ze_49, pl_49, es_49, u_53, ag_53, sz_53, by_53, ze_53, es_53, ↓AW_loop, h1]
    refine LW_rule (fun n fr h' => ∃ (i : Nat) (L1 L2 : List El), L1 ++ L2 = x0 :: L0 ∧ i = a + L1.length ∧ n = L2.length ∧ fget fr 8 = .int .i64 i ∧ fget fr 0 = .slice (some ⟨d, 0, none⟩) N z ∧ fget fr 1 = .int .i64 a ∧ fget fr 2 = .int .i64 b ∧ fget fr 3 = cmpV ∧
        RowAt h' d (P ++ (isort keyE L1 ++ (L2 ++ S))) ∧ Upd h h' [d] [d]) ?_ L0.length _ _ ⟨a + 1, [x0], L0, rfl, rfl, rfl, ?_⟩
    · rintro n fr h' ⟨i, L1, L2, hL, hi, hn, f8, f0, f1, f2, f3, hr, hu⟩
      have hLl := congrArg List.length hL
      rw [List.length_append] at hLl
      cases L2 with
      | nil =>
        have hib : ¬ (i : Int) < b := by simp only [List.length_nil] at hLl; omega
        simp -dsimp -implicitDefEqProofs (disch := first | omega | (simp only [stT, u_3, ag_3, sz_3, by_3, ze_3, es_3, u_9, ag_9, sz_9, by_9, ze_9, es_9, u_38, f_38_0, f_38_1, ag_38, sz_38, by_38, ze_38, pl_38, es_38, u_44, ag_44, sz_44, by_44, ze_44, es_44, u_49, f_49_0, f_49_1, ag_49, sz_49, by_49, ze_49, pl_49, es_49, u_53, ag_53, sz_53, by_53, ze_53, es_53]; done) | (simp only [List.append_assoc, List.cons_append, List.nil_append, pre_n, pre_c, pre_a, pre_g, pre_r]; done) | (simp only [List.length_set]; done) | (simp only [List.length_set]; omega) | assumption | decide +kernel | fail) only [↓RP, RQ, isConstA, Nat.reduceEqDiff, Nat.reduceLT, Nat.reduceAdd, Int.reduceNeg, Int.reduceLT, Int.reduceLE, Int.reduceToNat, Int.reduceEq, ↓reduceIte, ite_true, ite_false, Option.toList, Nat.reduceMul, Nat.reduceSub, Nat.reduceLeDiff, ne_eq, eq_self, u_3, ag_3, sz_3, by_3, ze_3, es_3, u_9, ag_9, sz_9, by_9, ze_9, es_9, u_38, f_38_0, f_38_1, ag_38, sz_38, by_38, ze_38, pl_38, es_38, u_44, ag_44, sz_44, by_44, ze_44, es_44, u_49, f_49_0, f_49_1, ag_49, sz_49, by_49, ze_49, pl_49, es_49, u_53, ag_53, sz_53, by_53, ze_53, es_53, ↓AW_loop, f8, f0, f1, f2, f3, hib]
        rw [List.append_nil] at hL
        rw [hL, List.nil_append] at hr
        exact ⟨hr, hu⟩
      | cons x L2 =>
        simp only [List.length_cons] at hLl hn hb hNl
        have hib : (i : Int) < b := by omega
        simp -dsimp -implicitDefEqProofs (disch := first | omega | (simp only [stT, u_3, ag_3, sz_3, by_3, ze_3, es_3, u_9, ag_9, sz_9, by_9, ze_9, es_9, u_38, f_38_0, f_38_1, ag_38, sz_38, by_38, ze_38, pl_38, es_38, u_44, ag_44, sz_44, by_44, ze_44, es_44, u_49, f_49_0, f_49_1, ag_49, sz_49, by_49, ze_49, pl_49, es_49, u_53, ag_53, sz_53, by_53, ze_53, es_53]; done) | (simp only [List.append_assoc, List.cons_append, List.nil_append, pre_n, pre_c, pre_a, pre_g, pre_r]; done) | (simp only [List.length_set]; done) | (simp only [List.length_set]; omega) | assumption | decide +kernel | fail) only [↓RP, RQ, isConstA, Nat.reduceEqDiff, Nat.reduceLT, Nat.reduceAdd, Int.reduceNeg, Int.reduceLT, Int.reduceLE, Int.reduceToNat, Int.reduceEq, ↓reduceIte, ite_true, ite_false, Option.toList, Nat.reduceMul, Nat.reduceSub, Nat.reduceLeDiff, ne_eq, eq_self, u_3, ag_3, sz_3, by_3, ze_3, es_3, u_9, ag_9, sz_9, by_9, ze_9, es_9, u_38, f_38_0, f_38_1, ag_38, sz_38, by_38, ze_38, pl_38, es_38, u_44, ag_44, sz_44, by_44, ze_44, es_44, u_49, f_49_0, f_49_1, ag_49, sz_49, by_49, ze_49, pl_49, es_49, u_53, ag_53, sz_53, by_53, ze_53, es_53, ↓AW_loop, f8, f0, f1, f2, f3, hib]
        have hT := isort_snoc keyE L1 x
        have hsl := isort_length keyE L1
        have hoks : ∀ y, y ∈ isort keyE L1 → okE y := fun y hy => hok y (by rw [← hL]; simp [(isort_perm keyE L1).mem_iff.1 hy])
        have hokx : okE x := hok x (by rw [← hL]; simp)
        obtain ⟨T, hTT⟩ : ∃ T, insR keyE (isort keyE L1) x = T := ⟨_, rfl⟩
        rw [hTT] at hT
        refine LW_rule (fun n fr h' => ∃ (j : Nat) (s t : List El), n = s.length ∧ j = a + s.length ∧ s.length + t.length = L1.length ∧ (∀ y, y ∈ s → okE y) ∧ fget fr 9 = .int .i64 j ∧ fget fr 8 = .int .i64 i ∧ fget fr 0 = .slice (some ⟨d, 0, none⟩) N z ∧ fget fr 1 = .int .i64 a ∧ fget fr 2 = .int .i64 b ∧ fget fr 3 = cmpV ∧
            RowAt h' d (P ++ (s ++ x :: (t ++ (L2 ++ S)))) ∧ insR keyE s x ++ t = T ∧ Upd h h' [d] [d]) ?_ (isort keyE L1).length _ _ ⟨i, isort keyE L1, [], rfl, by omega, by simp only [List.length_nil]; omega, hoks, ?_⟩
        · rintro n2 fr h2 ⟨j, s, t, hn2, hj, hst, hoks2, f9, f8, f0, f1, f2, f3, hr2, hins, hu2⟩
          by_cases hs : s = []
          · subst hs
            have hja : ¬ (a : Int) < j := by simp only [List.length_nil] at hj; omega
            simp -dsimp -implicitDefEqProofs (disch := first | omega | (simp only [stT, u_3, ag_3, sz_3, by_3, ze_3, es_3, u_9, ag_9, sz_9, by_9, ze_9, es_9, u_38, f_38_0, f_38_1, ag_38, sz_38, by_38, ze_38, pl_38, es_38, u_44, ag_44, sz_44, by_44, ze_44, es_44, u_49, f_49_0, f_49_1, ag_49, sz_49, by_49, ze_49, pl_49, es_49, u_53, ag_53, sz_53, by_53, ze_53, es_53]; done) | (simp only [List.append_assoc, List.cons_append, List.nil_append, pre_n, pre_c, pre_a, pre_g, pre_r]; done) | (simp only [List.length_set]; done) | (simp only [List.length_set]; omega) | assumption | decide +kernel | fail) only [↓RP, RQ, isConstA, Nat.reduceEqDiff, Nat.reduceLT, Nat.reduceAdd, Int.reduceNeg, Int.reduceLT, Int.reduceLE, Int.reduceToNat, Int.reduceEq, ↓reduceIte, ite_true, ite_false, Option.toList, Nat.reduceMul, Nat.reduceSub, Nat.reduceLeDiff, ne_eq, eq_self, u_3, ag_3, sz_3, by_3, ze_3, es_3, u_9, ag_9, sz_9, by_9, ze_9, es_9, u_38, f_38_0, f_38_1, ag_38, sz_38, by_38, ze_38, pl_38, es_38, u_44, ag_44, sz_44, by_44, ze_44, es_44, u_49, f_49_0, f_49_1, ag_49, sz_49, by_49, ze_49, pl_49, es_49, u_53, ag_53, sz_53, by_53, ze_53, es_53, ↓AW_loop, f9, f8, f0, f1, f2, f3, hja]
            have hTx : T = x :: t := by rw [← hins, insR_nil]; rfl
            refine ⟨by decide +kernel, L2.length, by omega, i + 1, L1 ++ [x], L2, by rw [List.append_assoc]; exact hL, by rw [List.length_append, List.length_singleton]; omega, rfl, by congr 1, ?_, hu2⟩
            rw [hT, hTx]
            exact hr2
          · obtain ⟨s', y, rfl⟩ : ∃ s' y, s = s' ++ [y] := ⟨s.dropLast, s.getLast hs, (List.dropLast_concat_getLast hs).symm⟩
            have hja : (a : Int) < j := by simp only [List.length_append, List.length_singleton] at hj; omega
            have e0 : P ++ (s' ++ [y] ++ x :: (t ++ (L2 ++ S))) = (P ++ s') ++ y :: x :: (t ++ (L2 ++ S)) := by simp
            rw [e0] at hr2
            obtain ⟨gy, gx⟩ := get_adj (P ++ s') (t ++ (L2 ++ S)) x y
            have hjl : (P ++ s').length + 1 = j := by simp only [List.length_append, List.length_singleton] at hj ⊢; omega
            have hjl2 : (P ++ s').length = j - 1 := by omega
            rw [hjl] at gx
            rw [hjl2] at gy
            have hlen2 : ((P ++ s') ++ y :: x :: (t ++ (L2 ++ S))).length = N := by
              simp only [List.length_append, List.length_cons, List.length_nil] at hst hNl ⊢; omega
            have sw := swap_adj (P ++ s') (t ++ (L2 ++ S)) x y
            rw [hjl, hjl2] at sw
            obtain ⟨D', hD⟩ : ∃ D', (P ++ s') ++ y :: x :: (t ++ (L2 ++ S)) = D' := ⟨_, rfl⟩
            rw [hD] at hr2 gx gy hlen2 sw
            have hj1 : (j : Int) - 1 = ((j - 1 : Nat) : Int) := by omega
            have hjN : j < D'.length := (List.getElem?_eq_some_iff.1 gx).1
            have q1 : (j : Int) < N := by omega
            have q2 : ((j - 1 : Nat) : Int) < N := by omega
            have l1 := row_le elE_len gx
            have l2 := row_le elE_len gy
            have c1 := flatMap_chunk elE_len D' _ _ gx
            have c2 := flatMap_chunk elE_len D' _ _ gy
            have hr2' := hr2
            unfold RowAt at hr2
            have hrX := fun X => blkA_app X hr2
            simp -dsimp -implicitDefEqProofs (disch := first | omega | (simp only [stT, u_3, ag_3, sz_3, by_3, ze_3, es_3, u_9, ag_9, sz_9, by_9, ze_9, es_9, u_38, f_38_0, f_38_1, ag_38, sz_38, by_38, ze_38, pl_38, es_38, u_44, ag_44, sz_44, by_44, ze_44, es_44, u_49, f_49_0, f_49_1, ag_49, sz_49, by_49, ze_49, pl_49, es_49, u_53, ag_53, sz_53, by_53, ze_53, es_53]; done) | (simp only [List.append_assoc, List.cons_append, List.nil_append, pre_n, pre_c, pre_a, pre_g, pre_r]; done) | (simp only [List.length_set]; done) | (simp only [List.length_set]; omega) | assumption | decide +kernel | fail) only [↓RP, RQ, isConstA, Nat.reduceEqDiff, Nat.reduceLT, Nat.reduceAdd, Int.reduceNeg, Int.reduceLT, Int.reduceLE, Int.reduceToNat, Int.reduceEq, ↓reduceIte, ite_true, ite_false, Option.toList, Nat.reduceMul, Nat.reduceSub, Nat.reduceLeDiff, ne_eq, eq_self, u_3, ag_3, sz_3, by_3, ze_3, es_3, u_9, ag_9, sz_9, by_9, ze_9, es_9, u_38, f_38_0, f_38_1, ag_38, sz_38, by_38, ze_38, pl_38, es_38, u_44, ag_44, sz_44, by_44, ze_44, es_44, u_49, f_49_0, f_49_1, ag_49, sz_49, by_49, ze_49, pl_49, es_49, u_53, ag_53, sz_53, by_53, ze_53, es_53, ↓AW_loop, f9, f8, f0, f1, f2, f3, hja, hr2, hj1, q1, q2, l1, l2, c1, c2, cmpV]
            refine ⟨by decide +kernel, ?_⟩
            refine (cmp_q x y hokx (hoks2 y (by simp)) _).use' fun g => ?_
            by_cases hlt : keyE x < keyE y
            · have hlt' : keyE x - keyE y < 0 := by omega
              rw [insR_snoc_lt keyE hlt] at hins
              have p1 := row_put elE_len D' j y hjN
              have p2 := row_put elE_len (D'.set j y) (j - 1) x (by rw [List.length_set]; omega)
              have l3 : (j - 1) * 3 + 3 ≤ ((D'.set j y).flatMap elE).length := by rw [flatMap_len elE_len, List.length_set]; rw [flatMap_len elE_len] at l2; exact l2
              have hdlt := blkA_lt hr2
              have hs0 : ∀ X, blkA ((h2 ++ g).set d (some (.cells X))) d = some X := fun X => blk_setB0 (by rw [List.length_append]; omega)
              have o1 := elE_one x
              have o2 := elE_one y
              have e1 := elE_len x
              have e2 := elE_len y
              simp -dsimp -implicitDefEqProofs (disch := first | omega | (simp only [stT, u_3, ag_3, sz_3, by_3, ze_3, es_3, u_9, ag_9, sz_9, by_9, ze_9, es_9, u_38, f_38_0, f_38_1, ag_38, sz_38, by_38, ze_38, pl_38, es_38, u_44, ag_44, sz_44, by_44, ze_44, es_44, u_49, f_49_0, f_49_1, ag_49, sz_49, by_49, ze_49, pl_49, es_49, u_53, ag_53, sz_53, by_53, ze_53, es_53]; done) | (simp only [List.append_assoc, List.cons_append, List.nil_append, pre_n, pre_c, pre_a, pre_g, pre_r]; done) | (simp only [List.length_set]; done) | (simp only [List.length_set]; omega) | assumption | decide +kernel | fail) only [↓RP, RQ, isConstA, Nat.reduceEqDiff, Nat.reduceLT, Nat.reduceAdd, Int.reduceNeg, Int.reduceLT, Int.reduceLE, Int.reduceToNat, Int.reduceEq, ↓reduceIte, ite_true, ite_false, Option.toList, Nat.reduceMul, Nat.reduceSub, Nat.reduceLeDiff, ne_eq, eq_self, u_3, ag_3, sz_3, by_3, ze_3, es_3, u_9, ag_9, sz_9, by_9, ze_9, es_9, u_38, f_38_0, f_38_1, ag_38, sz_38, by_38, ze_38, pl_38, es_38, u_44, ag_44, sz_44, by_44, ze_44, es_44, u_49, f_49_0, f_49_1, ag_49, sz_49, by_49, ze_49, pl_49, es_49, u_53, ag_53, sz_53, by_53, ze_53, es_53, ↓AW_loop, f9, f8, f0, f1, f2, f3, hlt', hrX, hj1, q1, q2, l1, l2, c1, c2, p1, p2, l3, hs0, o1, o2, e1, e2, set_twice]
              refine ⟨by decide +kernel, s'.length, by rw [hn2]; simp, j - 1, s', y :: t, rfl, by simp only [List.length_append, List.length_singleton] at hj; omega, by simp only [List.length_append, List.length_cons, List.length_nil] at hst ⊢; omega, fun u hu => hoks2 u (by simp [hu]), rfl, rfl, ?_, by rw [← hins]; simp, (hu2.set (by simp)).more g⟩
              unfold RowAt
              rw [blk_setB hdlt, sw]
              simp
            · have hlt' : ¬ keyE x - keyE y < 0 := by omega
              rw [insR_snoc_ge keyE hlt] at hins
              simp -dsimp -implicitDefEqProofs (disch := first | omega | (simp only [stT, u_3, ag_3, sz_3, by_3, ze_3, es_3, u_9, ag_9, sz_9, by_9, ze_9, es_9, u_38, f_38_0, f_38_1, ag_38, sz_38, by_38, ze_38, pl_38, es_38, u_44, ag_44, sz_44, by_44, ze_44, es_44, u_49, f_49_0, f_49_1, ag_49, sz_49, by_49, ze_49, pl_49, es_49, u_53, ag_53, sz_53, by_53, ze_53, es_53]; done) | (simp only [List.append_assoc, List.cons_append, List.nil_append, pre_n, pre_c, pre_a, pre_g, pre_r]; done) | (simp only [List.length_set]; done) | (simp only [List.length_set]; omega) | assumption | decide +kernel | fail) only [↓RP, RQ, isConstA, Nat.reduceEqDiff, Nat.reduceLT, Nat.reduceAdd, Int.reduceNeg, Int.reduceLT, Int.reduceLE, Int.reduceToNat, Int.reduceEq, ↓reduceIte, ite_true, ite_false, Option.toList, Nat.reduceMul, Nat.reduceSub, Nat.reduceLeDiff, ne_eq, eq_self, u_3, ag_3, sz_3, by_3, ze_3, es_3, u_9, ag_9, sz_9, by_9, ze_9, es_9, u_38, f_38_0, f_38_1, ag_38, sz_38, by_38, ze_38, pl_38, es_38, u_44, ag_44, sz_44, by_44, ze_44, es_44, u_49, f_49_0, f_49_1, ag_49, sz_49, by_49, ze_49, pl_49, es_49, u_53, ag_53, sz_53, by_53, ze_53, es_53, ↓AW_loop, f9, f8, f0, f1, f2, f3, hlt']
              refine ⟨L2.length, by omega, i + 1, L1 ++ [x], L2, by rw [List.append_assoc]; exact hL, by rw [List.length_append, List.length_singleton]; omega, rfl, by congr 1, rfl, ?_, hu2.more g⟩
              rw [hT, ← hins]
              have := blkA_app g hr2
              rw [← hD] at this
              unfold RowAt
              rw [this]
              simp
        · simp -dsimp -implicitDefEqProofs (disch := first | omega | (simp only [stT, u_3, ag_3, sz_3, by_3, ze_3, es_3, u_9, ag_9, sz_9, by_9, ze_9, es_9, u_38, f_38_0, f_38_1, ag_38, sz_38, by_38, ze_38, pl_38, es_38, u_44, ag_44, sz_44, by_44, ze_44, es_44, u_49, f_49_0, f_49_1, ag_49, sz_49, by_49, ze_49, pl_49, es_49, u_53, ag_53, sz_53, by_53, ze_53, es_53]; done) | (simp only [List.append_assoc, List.cons_append, List.nil_append, pre_n, pre_c, pre_a, pre_g, pre_r]; done) | (simp only [List.length_set]; done) | (simp only [List.length_set]; omega) | assumption | decide +kernel | fail) only [↓RP, RQ, isConstA, Nat.reduceEqDiff, Nat.reduceLT, Nat.reduceAdd, Int.reduceNeg, Int.reduceLT, Int.reduceLE, Int.reduceToNat, Int.reduceEq, ↓reduceIte, ite_true, ite_false, Option.toList, Nat.reduceMul, Nat.reduceSub, Nat.reduceLeDiff, ne_eq, eq_self, u_3, ag_3, sz_3, by_3, ze_3, es_3, u_9, ag_9, sz_9, by_9, ze_9, es_9, u_38, f_38_0, f_38_1, ag_38, sz_38, by_38, ze_38, pl_38, es_38, u_44, ag_44, sz_44, by_44, ze_44, es_44, u_49, f_49_0, f_49_1, ag_49, sz_49, by_49, ze_49, pl_49, es_49, u_53, ag_53, sz_53, by_53, ze_53, es_53, ↓AW_loop]
          refine ⟨f8, f0, f1, f2, f3, ?_, hTT, hu⟩
          exact hr
    · simp -dsimp -implicitDefEqProofs (disch := first | omega | (simp only [stT, u_3, ag_3, sz_3, by_3, ze_3, es_3, u_9, ag_9, sz_9, by_9, ze_9, es_9, u_38, f_38_0, f_38_1, ag_38, sz_38, by_38, ze_38, pl_38, es_38, u_44, ag_44, sz_44, by_44, ze_44, es_44, u_49, f_49_0, f_49_1, ag_49, sz_49, by_49, ze_49, pl_49, es_49, u_53, ag_53, sz_53, by_53, ze_53, es_53]; done) | (simp only [List.append_assoc, List.cons_append, List.nil_append, pre_n, pre_c, pre_a, pre_g, pre_r]; done) | (simp only [List.length_set]; done) | (simp only [List.length_set]; omega) | assumption | decide +kernel | fail) only [↓RP, RQ, isConstA, Nat.reduceEqDiff, Nat.reduceLT, Nat.reduceAdd, Int.reduceNeg, Int.reduceLT, Int.reduceLE, Int.reduceToNat, Int.reduceEq, ↓reduceIte, ite_true, ite_false, Option.toList, Nat.reduceMul, Nat.reduceSub, Nat.reduceLeDiff, ne_eq, eq_self, u_3, ag_3, sz_3, by_3, ze_3, es_3, u_9, ag_9, sz_9, by_9, ze_9, es_9, u_38, f_38_0, f_38_1, ag_38, sz_38, by_38, ze_38, pl_38, es_38, u_44, ag_44, sz_44, by_44, ze_44, es_44, u_49, f_49_0, f_49_1, ag_49, sz_49, by_49, ze_49, pl_49, es_49, u_53, ag_53, sz_53, by_53, ze_53, es_53, ↓AW_loop]
      exact ⟨hd, Upd.refl _ _⟩
end Go.Abs
/- Ln4: the walks of the library's stable sort: merging in place, one element with others. Conditions: none. -/
set_option maxRecDepth 100000
set_option linter.unusedSimpArgs false
set_option linter.unusedVariables false
namespace Go.Abs
open Go.Proofs Go.Abs.Srt
theorem swap_fwd {α : Type} (Q R : List α) (x y : α) : ((Q ++ x :: y :: R).set Q.length y).set (Q.length + 1) x = Q ++ y :: x :: R := by
  have e : ∀ x y : α, Q ++ y :: x :: R = (Q ++ [y]) ++ x :: R := fun x y => by simp
  rw [set_mid Q _ x y _ rfl, e, set_mid (Q ++ [y]) R y x (Q.length + 1) (by simp), ← e]
theorem sorted_take {α : Type} (key : α → Int) {l : List α} (h : Sorted key l) {k : Nat} {y : α} (hk : l[k]? = some y) : ∀ z, z ∈ l.take (k + 1) → key z ≤ key y := by
  intro z hz
  obtain ⟨i, hi⟩ := List.getElem?_of_mem hz
  have hik : i < k + 1 := by
    have := (List.getElem?_eq_some_iff.1 hi).1
    rw [List.length_take] at this; omega
  rw [List.getElem?_take_of_lt hik] at hi
  by_cases he : i = k
  · subst he; rw [hk] at hi; cases hi; exact Int.le_refl _
  · obtain ⟨l1, e1⟩ := List.getElem?_eq_some_iff.1 hi
    obtain ⟨l2, e2⟩ := List.getElem?_eq_some_iff.1 hk
    have := List.pairwise_iff_getElem.1 h i k l1 l2 (by omega)
    rw [e1, e2] at this; exact this
theorem sorted_drop {α : Type} (key : α → Int) {l : List α} (h : Sorted key l) {k : Nat} {y : α} (hk : l[k]? = some y) : ∀ z, z ∈ l.drop k → key y ≤ key z := by
  intro z hz
  obtain ⟨i, hi⟩ := List.getElem?_of_mem hz
  rw [List.getElem?_drop] at hi
  by_cases he : i = 0
  · subst he; rw [Nat.add_zero, hk] at hi; cases hi; exact Int.le_refl _
  · obtain ⟨l1, e1⟩ := List.getElem?_eq_some_iff.1 hi
    obtain ⟨l2, e2⟩ := List.getElem?_eq_some_iff.1 hk
    have := List.pairwise_iff_getElem.1 h k (k + i) l2 l1 (by omega)
    rw [e1, e2] at this; exact this
theorem half_u (n : Nat) (h : n < 2 ^ 60) : IntKind.u64.wrap (n : Int) = (n : Int) := by rw [wrapu64]; omega
theorem shr1 {P : Program} {t : TypeId} {cx cy : Bool} {x : Nat} : binA P .shr t cx cy (.int .u64 x) (.int .u64 1) = some (.int .u64 ((x / 2 : Nat) : Int)) := by
  rw [b_shr, if_neg (by decide), show ((1 : Int).toNat) = 1 from rfl, show min 1 IntKind.u64.bits = 1 from rfl, fdivN]
theorem symA_q (P B S : List El) (x : El) {h : AHeap} {d z a m b : Nat} (hd : RowAt h d (P ++ x :: (B ++ S))) (ha : a = P.length) (hm : m = a + 1) (hb : b = m + B.length) (hB0 : 0 < B.length) (hB : Sorted keyE B) (hok : okE x) (hokB : ∀ y, y ∈ B → okE y) (hl : (P ++ x :: (B ++ S)).length < 2 ^ 40) :
    FW cx 23 [.slice (some ⟨d, 0, none⟩) (P ++ x :: (B ++ S)).length z, .int .i64 a, .int .i64 m, .int .i64 b, cmpV] h fun v h' => v = .tuple #[] ∧ RowAt h' d (P ++ (mrg keyE [x] B ++ S)) ∧ Upd h h' [d] [d] := by
  refine FW_f Try.func23 rfl (by decide +kernel) ?_
  have hNl : P.length + (1 + (B.length + S.length)) = (P ++ x :: (B ++ S)).length := by simp only [List.length_append, List.length_cons]; omega
  obtain ⟨N, hN⟩ : ∃ N, (P ++ x :: (B ++ S)).length = N := ⟨_, rfl⟩
  rw [hN] at hl hNl ⊢
  have s1 : (m : Int) - a = 1 := by omega
  simp -dsimp -implicitDefEqProofs (disch := first | omega | (simp only [stT, u_3, ag_3, sz_3, by_3, ze_3, es_3, u_4, ag_4, sz_4, by_4, ze_4, bo_4, es_4, u_9, ag_9, sz_9, by_9, ze_9, es_9, u_38, f_38_0, f_38_1, ag_38, sz_38, by_38, ze_38, pl_38, es_38, u_44, ag_44, sz_44, by_44, ze_44, es_44, u_49, f_49_0, f_49_1, ag_49, sz_49, by_49, ze_49, pl_49, es_49, u_53, ag_53, sz_53, by_53, ze_53, es_53, u_58, ag_58, sz_58, by_58, ze_58, es_58]; done) | (simp only [List.append_assoc, List.cons_append, List.nil_append, pre_n, pre_c, pre_a, pre_g, pre_r]; done) | (simp only [List.length_set]; done) | (simp only [List.length_set]; omega) | assumption | decide +kernel | fail) only [↓RP, RQ, isConstA, Nat.reduceEqDiff, Nat.reduceLT, Nat.reduceAdd, Int.reduceNeg, Int.reduceLT, Int.reduceLE, Int.reduceToNat, Int.reduceEq, ↓reduceIte, ite_true, ite_false, Option.toList, Nat.reduceMul, Nat.reduceSub, Nat.reduceLeDiff, ne_eq, eq_self, u_3, ag_3, sz_3, by_3, ze_3, es_3, u_4, ag_4, sz_4, by_4, ze_4, bo_4, es_4, u_9, ag_9, sz_9, by_9, ze_9, es_9, u_38, f_38_0, f_38_1, ag_38, sz_38, by_38, ze_38, pl_38, es_38, u_44, ag_44, sz_44, by_44, ze_44, es_44, u_49, f_49_0, f_49_1, ag_49, sz_49, by_49, ze_49, pl_49, es_49, u_53, ag_53, sz_53, by_53, ze_53, es_53, u_58, ag_58, sz_58, by_58, ze_58, es_58, ↓AW_loop, s1]
  have gx : (P ++ x :: (B ++ S))[a]? = some x := get_mid P _ x _ ha.symm
  have gB : ∀ k, m ≤ k → k < b → (P ++ x :: (B ++ S))[k]? = B[k - m]? := fun k h1 h2 => by
    rw [List.getElem?_append_right (by omega), show k - P.length = (k - m) + 1 by omega, List.getElem?_cons_succ, List.getElem?_append_left (by omega)]
  refine LW_rule (fun n fr h' => ∃ (i j : Nat), n = j - i ∧ m ≤ i ∧ i ≤ j ∧ j ≤ b ∧ (∀ y, y ∈ B.take (i - m) → keyE y < keyE x) ∧ (∀ y, y ∈ B.drop (j - m) → keyE x ≤ keyE y) ∧ fget fr 10 = .int .i64 i ∧ fget fr 11 = .int .i64 j ∧ fget fr 0 = .slice (some ⟨d, 0, none⟩) N z ∧ fget fr 1 = .int .i64 a ∧ fget fr 4 = cmpV ∧
      RowAt h' d (P ++ x :: (B ++ S)) ∧ Upd h h' [d] [d]) ?_ (b - m) _ _ ⟨m, b, rfl, by omega, by omega, by omega, by simp, by rw [List.drop_of_length_le (by omega)]; simp, ?_⟩
  · rintro n fr h' ⟨i, j, hn, hmi, hij, hjb, hlo, hhi, f10, f11, f0, f1, f4, hr, hu⟩
    by_cases hlt : i < j
    · have hlt' : (i : Int) < j := by omega
      have hadd : (i : Int) + j = ((i + j : Nat) : Int) := by omega
      obtain ⟨k, hk⟩ : ∃ k, (i + j) / 2 = k := ⟨_, rfl⟩
      obtain ⟨y, hy⟩ : ∃ y, B[k - m]? = some y := ⟨_, List.getElem?_eq_getElem (by omega)⟩
      have gy := gB k (by omega) (by omega)
      rw [hy] at gy
      have hw1 := half_u (i + j) (by omega)
      have q1 : (a : Int) < N := by omega
      have q2 : (k : Int) < N := by omega
      have l1 := row_le elE_len gx
      have l2 := row_le elE_len gy
      have c1 := flatMap_chunk elE_len _ _ _ gx
      have c2 := flatMap_chunk elE_len _ _ _ gy
      have hr' := hr
      unfold RowAt at hr'
      obtain ⟨D, hD⟩ : ∃ D, P ++ x :: (B ++ S) = D := ⟨_, rfl⟩
      rw [hD] at hr' l1 l2 c1 c2
      simp -dsimp -implicitDefEqProofs (disch := first | omega | (simp only [stT, u_3, ag_3, sz_3, by_3, ze_3, es_3, u_4, ag_4, sz_4, by_4, ze_4, bo_4, es_4, u_9, ag_9, sz_9, by_9, ze_9, es_9, u_38, f_38_0, f_38_1, ag_38, sz_38, by_38, ze_38, pl_38, es_38, u_44, ag_44, sz_44, by_44, ze_44, es_44, u_49, f_49_0, f_49_1, ag_49, sz_49, by_49, ze_49, pl_49, es_49, u_53, ag_53, sz_53, by_53, ze_53, es_53, u_58, ag_58, sz_58, by_58, ze_58, es_58]; done) | (simp only [List.append_assoc, List.cons_append, List.nil_append, pre_n, pre_c, pre_a, pre_g, pre_r]; done) | (simp only [List.length_set]; done) | (simp only [List.length_set]; omega) | assumption | decide +kernel | fail) only [↓RP, RQ, isConstA, Nat.reduceEqDiff, Nat.reduceLT, Nat.reduceAdd, Int.reduceNeg, Int.reduceLT, Int.reduceLE, Int.reduceToNat, Int.reduceEq, ↓reduceIte, ite_true, ite_false, Option.toList, Nat.reduceMul, Nat.reduceSub, Nat.reduceLeDiff, ne_eq, eq_self, u_3, ag_3, sz_3, by_3, ze_3, es_3, u_4, ag_4, sz_4, by_4, ze_4, bo_4, es_4, u_9, ag_9, sz_9, by_9, ze_9, es_9, u_38, f_38_0, f_38_1, ag_38, sz_38, by_38, ze_38, pl_38, es_38, u_44, ag_44, sz_44, by_44, ze_44, es_44, u_49, f_49_0, f_49_1, ag_49, sz_49, by_49, ze_49, pl_49, es_49, u_53, ag_53, sz_53, by_53, ze_53, es_53, u_58, ag_58, sz_58, by_58, ze_58, es_58, ↓AW_loop, f10, f11, f0, f1, f4, hlt', hadd, hw1, shr1, hk, hr', q1, q2, l1, l2, c1, c2, cmpV]
      refine ⟨by decide +kernel, ?_⟩
      refine (cmp_q y x (hokB y (List.mem_of_getElem? hy)) hok _).use' fun g => ?_
      by_cases hc : keyE y < keyE x
      · have hc' : keyE y - keyE x < 0 := by omega
        simp -dsimp -implicitDefEqProofs (disch := first | omega | (simp only [stT, u_3, ag_3, sz_3, by_3, ze_3, es_3, u_4, ag_4, sz_4, by_4, ze_4, bo_4, es_4, u_9, ag_9, sz_9, by_9, ze_9, es_9, u_38, f_38_0, f_38_1, ag_38, sz_38, by_38, ze_38, pl_38, es_38, u_44, ag_44, sz_44, by_44, ze_44, es_44, u_49, f_49_0, f_49_1, ag_49, sz_49, by_49, ze_49, pl_49, es_49, u_53, ag_53, sz_53, by_53, ze_53, es_53, u_58, ag_58, sz_58, by_58, ze_58, es_58]; done) | (simp only [List.append_assoc, List.cons_append, List.nil_append, pre_n, pre_c, pre_a, pre_g, pre_r]; done) | (simp only [List.length_set]; done) | (simp only [List.length_set]; omega) | assumption | decide +kernel | fail) only [↓RP, RQ, isConstA, Nat.reduceEqDiff, Nat.reduceLT, Nat.reduceAdd, Int.reduceNeg, Int.reduceLT, Int.reduceLE, Int.reduceToNat, Int.reduceEq, ↓reduceIte, ite_true, ite_false, Option.toList, Nat.reduceMul, Nat.reduceSub, Nat.reduceLeDiff, ne_eq, eq_self, u_3, ag_3, sz_3, by_3, ze_3, es_3, u_4, ag_4, sz_4, by_4, ze_4, bo_4, es_4, u_9, ag_9, sz_9, by_9, ze_9, es_9, u_38, f_38_0, f_38_1, ag_38, sz_38, by_38, ze_38, pl_38, es_38, u_44, ag_44, sz_44, by_44, ze_44, es_44, u_49, f_49_0, f_49_1, ag_49, sz_49, by_49, ze_49, pl_49, es_49, u_53, ag_53, sz_53, by_53, ze_53, es_53, u_58, ag_58, sz_58, by_58, ze_58, es_58, ↓AW_loop, f10, f11, f0, f1, f4, hc']
        refine ⟨j - (k + 1), by omega, k + 1, j, rfl, by omega, by omega, hjb, fun u hu => ?_, hhi, rfl, rfl, rfl, ?_, hu.more g⟩
        · rw [show k + 1 - m = k - m + 1 by omega] at hu
          have := sorted_take keyE hB hy u hu
          omega
        · rw [hD]; exact blkA_app g hr'
      · have hc' : ¬ keyE y - keyE x < 0 := by omega
        simp -dsimp -implicitDefEqProofs (disch := first | omega | (simp only [stT, u_3, ag_3, sz_3, by_3, ze_3, es_3, u_4, ag_4, sz_4, by_4, ze_4, bo_4, es_4, u_9, ag_9, sz_9, by_9, ze_9, es_9, u_38, f_38_0, f_38_1, ag_38, sz_38, by_38, ze_38, pl_38, es_38, u_44, ag_44, sz_44, by_44, ze_44, es_44, u_49, f_49_0, f_49_1, ag_49, sz_49, by_49, ze_49, pl_49, es_49, u_53, ag_53, sz_53, by_53, ze_53, es_53, u_58, ag_58, sz_58, by_58, ze_58, es_58]; done) | (simp only [List.append_assoc, List.cons_append, List.nil_append, pre_n, pre_c, pre_a, pre_g, pre_r]; done) | (simp only [List.length_set]; done) | (simp only [List.length_set]; omega) | assumption | decide +kernel | fail) only [↓RP, RQ, isConstA, Nat.reduceEqDiff, Nat.reduceLT, Nat.reduceAdd, Int.reduceNeg, Int.reduceLT, Int.reduceLE, Int.reduceToNat, Int.reduceEq, ↓reduceIte, ite_true, ite_false, Option.toList, Nat.reduceMul, Nat.reduceSub, Nat.reduceLeDiff, ne_eq, eq_self, u_3, ag_3, sz_3, by_3, ze_3, es_3, u_4, ag_4, sz_4, by_4, ze_4, bo_4, es_4, u_9, ag_9, sz_9, by_9, ze_9, es_9, u_38, f_38_0, f_38_1, ag_38, sz_38, by_38, ze_38, pl_38, es_38, u_44, ag_44, sz_44, by_44, ze_44, es_44, u_49, f_49_0, f_49_1, ag_49, sz_49, by_49, ze_49, pl_49, es_49, u_53, ag_53, sz_53, by_53, ze_53, es_53, u_58, ag_58, sz_58, by_58, ze_58, es_58, ↓AW_loop, f10, f11, f0, f1, f4, hc']
        refine ⟨k - i, by omega, i, k, rfl, hmi, by omega, by omega, hlo, fun u hu => ?_, rfl, rfl, rfl, ?_, hu.more g⟩
        · have := sorted_drop keyE hB hy u hu
          omega
        · rw [hD]; exact blkA_app g hr'
    · have hlt' : ¬ (i : Int) < j := by omega
      obtain rfl : i = j := by omega
      simp -dsimp -implicitDefEqProofs (disch := first | omega | (simp only [stT, u_3, ag_3, sz_3, by_3, ze_3, es_3, u_4, ag_4, sz_4, by_4, ze_4, bo_4, es_4, u_9, ag_9, sz_9, by_9, ze_9, es_9, u_38, f_38_0, f_38_1, ag_38, sz_38, by_38, ze_38, pl_38, es_38, u_44, ag_44, sz_44, by_44, ze_44, es_44, u_49, f_49_0, f_49_1, ag_49, sz_49, by_49, ze_49, pl_49, es_49, u_53, ag_53, sz_53, by_53, ze_53, es_53, u_58, ag_58, sz_58, by_58, ze_58, es_58]; done) | (simp only [List.append_assoc, List.cons_append, List.nil_append, pre_n, pre_c, pre_a, pre_g, pre_r]; done) | (simp only [List.length_set]; done) | (simp only [List.length_set]; omega) | assumption | decide +kernel | fail) only [↓RP, RQ, isConstA, Nat.reduceEqDiff, Nat.reduceLT, Nat.reduceAdd, Int.reduceNeg, Int.reduceLT, Int.reduceLE, Int.reduceToNat, Int.reduceEq, ↓reduceIte, ite_true, ite_false, Option.toList, Nat.reduceMul, Nat.reduceSub, Nat.reduceLeDiff, ne_eq, eq_self, u_3, ag_3, sz_3, by_3, ze_3, es_3, u_4, ag_4, sz_4, by_4, ze_4, bo_4, es_4, u_9, ag_9, sz_9, by_9, ze_9, es_9, u_38, f_38_0, f_38_1, ag_38, sz_38, by_38, ze_38, pl_38, es_38, u_44, ag_44, sz_44, by_44, ze_44, es_44, u_49, f_49_0, f_49_1, ag_49, sz_49, by_49, ze_49, pl_49, es_49, u_53, ag_53, sz_53, by_53, ze_53, es_53, u_58, ag_58, sz_58, by_58, ze_58, es_58, ↓AW_loop, f10, f11, f0, f1, f4, hlt']
      have hBs : B = B.take (i - m) ++ B.drop (i - m) := (List.take_append_drop _ _).symm
      have hl1 : (B.take (i - m)).length = i - m := by rw [List.length_take]; omega
      have hl2 : (B.drop (i - m)).length = B.length - (i - m) := List.length_drop
      have hmg := mrg_one_left keyE x _ _ hlo hhi
      rw [← hBs] at hmg
      generalize B.take (i - m) = B1 at *
      generalize B.drop (i - m) = B2 at *
      rw [hBs] at hr
      rw [hmg]
      have hi1 : (i : Int) - 1 = ((i - 1 : Nat) : Int) := by omega
      refine LW_rule (fun n fr h' => ∃ (k : Nat) (U V : List El), U ++ V = B1 ∧ k = a + U.length ∧ n = V.length ∧ fget fr 13 = .int .i64 k ∧ fget fr 10 = .int .i64 i ∧ fget fr 0 = .slice (some ⟨d, 0, none⟩) N z ∧ RowAt h' d (P ++ (U ++ x :: (V ++ (B2 ++ S)))) ∧ Upd h h' [d] [d]) ?_ B1.length _ _ ⟨a, [], B1, rfl, rfl, rfl, ?_⟩
      · rintro n fr h2 ⟨k, U, V, hUV, hk, hn2, f13, f10, f0, hr2, hu2⟩
        have hUl := congrArg List.length hUV
        rw [List.length_append] at hUl
        cases V with
        | nil =>
          have hki : ¬ (k : Int) < ((i - 1 : Nat) : Int) := by simp only [List.length_nil] at hUl; omega
          simp -dsimp -implicitDefEqProofs (disch := first | omega | (simp only [stT, u_3, ag_3, sz_3, by_3, ze_3, es_3, u_4, ag_4, sz_4, by_4, ze_4, bo_4, es_4, u_9, ag_9, sz_9, by_9, ze_9, es_9, u_38, f_38_0, f_38_1, ag_38, sz_38, by_38, ze_38, pl_38, es_38, u_44, ag_44, sz_44, by_44, ze_44, es_44, u_49, f_49_0, f_49_1, ag_49, sz_49, by_49, ze_49, pl_49, es_49, u_53, ag_53, sz_53, by_53, ze_53, es_53, u_58, ag_58, sz_58, by_58, ze_58, es_58]; done) | (simp only [List.append_assoc, List.cons_append, List.nil_append, pre_n, pre_c, pre_a, pre_g, pre_r]; done) | (simp only [List.length_set]; done) | (simp only [List.length_set]; omega) | assumption | decide +kernel | fail) only [↓RP, RQ, isConstA, Nat.reduceEqDiff, Nat.reduceLT, Nat.reduceAdd, Int.reduceNeg, Int.reduceLT, Int.reduceLE, Int.reduceToNat, Int.reduceEq, ↓reduceIte, ite_true, ite_false, Option.toList, Nat.reduceMul, Nat.reduceSub, Nat.reduceLeDiff, ne_eq, eq_self, u_3, ag_3, sz_3, by_3, ze_3, es_3, u_4, ag_4, sz_4, by_4, ze_4, bo_4, es_4, u_9, ag_9, sz_9, by_9, ze_9, es_9, u_38, f_38_0, f_38_1, ag_38, sz_38, by_38, ze_38, pl_38, es_38, u_44, ag_44, sz_44, by_44, ze_44, es_44, u_49, f_49_0, f_49_1, ag_49, sz_49, by_49, ze_49, pl_49, es_49, u_53, ag_53, sz_53, by_53, ze_53, es_53, u_58, ag_58, sz_58, by_58, ze_58, es_58, ↓AW_loop, f13, f10, f0, hi1, hki]
          rw [List.append_nil] at hUV
          subst hUV
          rw [List.nil_append] at hr2
          exact ⟨hr2, hu2⟩
        | cons y V =>
          simp only [List.length_cons] at hUl hn2
          have hki : (k : Int) < ((i - 1 : Nat) : Int) := by omega
          have e0 : P ++ (U ++ x :: (y :: V ++ (B2 ++ S))) = (P ++ U) ++ x :: y :: (V ++ (B2 ++ S)) := by simp
          rw [e0] at hr2
          obtain ⟨gx2, gy2⟩ := get_adj (P ++ U) (V ++ (B2 ++ S)) y x
          have sw := swap_fwd (P ++ U) (V ++ (B2 ++ S)) x y
          have hkl : (P ++ U).length = k := by rw [List.length_append]; omega
          rw [hkl] at gx2 gy2 sw
          have hBl := congrArg List.length hBs
          rw [List.length_append] at hBl
          obtain ⟨D', hD⟩ : ∃ D', (P ++ U) ++ x :: y :: (V ++ (B2 ++ S)) = D' := ⟨_, rfl⟩
          rw [hD] at hr2 gx2 gy2 sw
          have hk1 : (k : Int) + 1 = ((k + 1 : Nat) : Int) := by omega
          have hkN : k + 1 < D'.length := (List.getElem?_eq_some_iff.1 gy2).1
          have q1 : (k : Int) < N := by omega
          have q2 : ((k + 1 : Nat) : Int) < N := by omega
          have l1 := row_le elE_len gx2
          have l2 := row_le elE_len gy2
          have c1 := flatMap_chunk elE_len D' _ _ gx2
          have c2 := flatMap_chunk elE_len D' _ _ gy2
          have p1 := row_put elE_len D' k y (by omega)
          have p2 := row_put elE_len (D'.set k y) (k + 1) x (by rw [List.length_set]; omega)
          have l3 : (k + 1) * 3 + 3 ≤ ((D'.set k y).flatMap elE).length := by rw [flatMap_len elE_len, List.length_set]; rw [flatMap_len elE_len] at l2; exact l2
          have hdlt := blkA_lt hr2
          have hs0 : ∀ X, blkA (h2.set d (some (.cells X))) d = some X := fun X => blk_setB0 hdlt
          have o1 := elE_one x
          have o2 := elE_one y
          have e1 := elE_len x
          have e2 := elE_len y
          unfold RowAt at hr2
          simp -dsimp -implicitDefEqProofs (disch := first | omega | (simp only [stT, u_3, ag_3, sz_3, by_3, ze_3, es_3, u_4, ag_4, sz_4, by_4, ze_4, bo_4, es_4, u_9, ag_9, sz_9, by_9, ze_9, es_9, u_38, f_38_0, f_38_1, ag_38, sz_38, by_38, ze_38, pl_38, es_38, u_44, ag_44, sz_44, by_44, ze_44, es_44, u_49, f_49_0, f_49_1, ag_49, sz_49, by_49, ze_49, pl_49, es_49, u_53, ag_53, sz_53, by_53, ze_53, es_53, u_58, ag_58, sz_58, by_58, ze_58, es_58]; done) | (simp only [List.append_assoc, List.cons_append, List.nil_append, pre_n, pre_c, pre_a, pre_g, pre_r]; done) | (simp only [List.length_set]; done) | (simp only [List.length_set]; omega) | assumption | decide +kernel | fail) only [↓RP, RQ, isConstA, Nat.reduceEqDiff, Nat.reduceLT, Nat.reduceAdd, Int.reduceNeg, Int.reduceLT, Int.reduceLE, Int.reduceToNat, Int.reduceEq, ↓reduceIte, ite_true, ite_false, Option.toList, Nat.reduceMul, Nat.reduceSub, Nat.reduceLeDiff, ne_eq, eq_self, u_3, ag_3, sz_3, by_3, ze_3, es_3, u_4, ag_4, sz_4, by_4, ze_4, bo_4, es_4, u_9, ag_9, sz_9, by_9, ze_9, es_9, u_38, f_38_0, f_38_1, ag_38, sz_38, by_38, ze_38, pl_38, es_38, u_44, ag_44, sz_44, by_44, ze_44, es_44, u_49, f_49_0, f_49_1, ag_49, sz_49, by_49, ze_49, pl_49, es_49, u_53, ag_53, sz_53, by_53, ze_53, es_53, u_58, ag_58, sz_58, by_58, ze_58, es_58, ↓AW_loop, f13, f10, f0, hi1, hki, hr2, hk1, q1, q2, l1, l2, c1, c2, p1, p2, l3, hs0, o1, o2, e1, e2, set_twice]
          refine ⟨by decide +kernel, V.length, by omega, k + 1, U ++ [y], V, by rw [List.append_assoc]; exact hUV, by rw [List.length_append, List.length_singleton]; omega, rfl, rfl, ?_, hu2.set (by simp)⟩
          unfold RowAt
          rw [hs0, sw]
          simp
      · simp -dsimp -implicitDefEqProofs (disch := first | omega | (simp only [stT, u_3, ag_3, sz_3, by_3, ze_3, es_3, u_4, ag_4, sz_4, by_4, ze_4, bo_4, es_4, u_9, ag_9, sz_9, by_9, ze_9, es_9, u_38, f_38_0, f_38_1, ag_38, sz_38, by_38, ze_38, pl_38, es_38, u_44, ag_44, sz_44, by_44, ze_44, es_44, u_49, f_49_0, f_49_1, ag_49, sz_49, by_49, ze_49, pl_49, es_49, u_53, ag_53, sz_53, by_53, ze_53, es_53, u_58, ag_58, sz_58, by_58, ze_58, es_58]; done) | (simp only [List.append_assoc, List.cons_append, List.nil_append, pre_n, pre_c, pre_a, pre_g, pre_r]; done) | (simp only [List.length_set]; done) | (simp only [List.length_set]; omega) | assumption | decide +kernel | fail) only [↓RP, RQ, isConstA, Nat.reduceEqDiff, Nat.reduceLT, Nat.reduceAdd, Int.reduceNeg, Int.reduceLT, Int.reduceLE, Int.reduceToNat, Int.reduceEq, ↓reduceIte, ite_true, ite_false, Option.toList, Nat.reduceMul, Nat.reduceSub, Nat.reduceLeDiff, ne_eq, eq_self, u_3, ag_3, sz_3, by_3, ze_3, es_3, u_4, ag_4, sz_4, by_4, ze_4, bo_4, es_4, u_9, ag_9, sz_9, by_9, ze_9, es_9, u_38, f_38_0, f_38_1, ag_38, sz_38, by_38, ze_38, pl_38, es_38, u_44, ag_44, sz_44, by_44, ze_44, es_44, u_49, f_49_0, f_49_1, ag_49, sz_49, by_49, ze_49, pl_49, es_49, u_53, ag_53, sz_53, by_53, ze_53, es_53, u_58, ag_58, sz_58, by_58, ze_58, es_58, ↓AW_loop]
        rw [List.append_assoc] at hr
        exact ⟨f10, f0, hr, hu⟩
  · simp -dsimp -implicitDefEqProofs (disch := first | omega | (simp only [stT, u_3, ag_3, sz_3, by_3, ze_3, es_3, u_4, ag_4, sz_4, by_4, ze_4, bo_4, es_4, u_9, ag_9, sz_9, by_9, ze_9, es_9, u_38, f_38_0, f_38_1, ag_38, sz_38, by_38, ze_38, pl_38, es_38, u_44, ag_44, sz_44, by_44, ze_44, es_44, u_49, f_49_0, f_49_1, ag_49, sz_49, by_49, ze_49, pl_49, es_49, u_53, ag_53, sz_53, by_53, ze_53, es_53, u_58, ag_58, sz_58, by_58, ze_58, es_58]; done) | (simp only [List.append_assoc, List.cons_append, List.nil_append, pre_n, pre_c, pre_a, pre_g, pre_r]; done) | (simp only [List.length_set]; done) | (simp only [List.length_set]; omega) | assumption | decide +kernel | fail) only [↓RP, RQ, isConstA, Nat.reduceEqDiff, Nat.reduceLT, Nat.reduceAdd, Int.reduceNeg, Int.reduceLT, Int.reduceLE, Int.reduceToNat, Int.reduceEq, ↓reduceIte, ite_true, ite_false, Option.toList, Nat.reduceMul, Nat.reduceSub, Nat.reduceLeDiff, ne_eq, eq_self, u_3, ag_3, sz_3, by_3, ze_3, es_3, u_4, ag_4, sz_4, by_4, ze_4, bo_4, es_4, u_9, ag_9, sz_9, by_9, ze_9, es_9, u_38, f_38_0, f_38_1, ag_38, sz_38, by_38, ze_38, pl_38, es_38, u_44, ag_44, sz_44, by_44, ze_44, es_44, u_49, f_49_0, f_49_1, ag_49, sz_49, by_49, ze_49, pl_49, es_49, u_53, ag_53, sz_53, by_53, ze_53, es_53, u_58, ag_58, sz_58, by_58, ze_58, es_58, ↓AW_loop]
    exact ⟨hd, Upd.refl _ _⟩
theorem symB_q (P A S : List El) (y : El) {h : AHeap} {d z a m b : Nat} (hd : RowAt h d (P ++ (A ++ y :: S))) (ha : a = P.length) (hm : m = a + A.length) (hb : b = m + 1) (hA0 : 1 < A.length) (hA : Sorted keyE A) (hok : okE y) (hokA : ∀ x, x ∈ A → okE x) (hl : (P ++ (A ++ y :: S)).length < 2 ^ 40) :
    FW cx 23 [.slice (some ⟨d, 0, none⟩) (P ++ (A ++ y :: S)).length z, .int .i64 a, .int .i64 m, .int .i64 b, cmpV] h fun v h' => v = .tuple #[] ∧ RowAt h' d (P ++ (mrg keyE A [y] ++ S)) ∧ Upd h h' [d] [d] := by
  refine FW_f Try.func23 rfl (by decide +kernel) ?_
  have hNl : P.length + (A.length + (1 + S.length)) = (P ++ (A ++ y :: S)).length := by simp only [List.length_append, List.length_cons]; omega
  obtain ⟨N, hN⟩ : ∃ N, (P ++ (A ++ y :: S)).length = N := ⟨_, rfl⟩
  rw [hN] at hl hNl ⊢
  have s0 : (m : Int) - a = ((m - a : Nat) : Int) := by omega
  have s0' : ¬ ((m - a : Nat) : Int) = 1 := by omega
  have s1 : (b : Int) - m = 1 := by omega
  simp -dsimp -implicitDefEqProofs (disch := first | omega | (simp only [stT, u_3, ag_3, sz_3, by_3, ze_3, es_3, u_4, ag_4, sz_4, by_4, ze_4, bo_4, es_4, u_9, ag_9, sz_9, by_9, ze_9, es_9, u_38, f_38_0, f_38_1, ag_38, sz_38, by_38, ze_38, pl_38, es_38, u_44, ag_44, sz_44, by_44, ze_44, es_44, u_49, f_49_0, f_49_1, ag_49, sz_49, by_49, ze_49, pl_49, es_49, u_53, ag_53, sz_53, by_53, ze_53, es_53, u_58, ag_58, sz_58, by_58, ze_58, es_58]; done) | (simp only [List.append_assoc, List.cons_append, List.nil_append, pre_n, pre_c, pre_a, pre_g, pre_r]; done) | (simp only [List.length_set]; done) | (simp only [List.length_set]; omega) | assumption | decide +kernel | fail) only [↓RP, RQ, isConstA, Nat.reduceEqDiff, Nat.reduceLT, Nat.reduceAdd, Int.reduceNeg, Int.reduceLT, Int.reduceLE, Int.reduceToNat, Int.reduceEq, ↓reduceIte, ite_true, ite_false, Option.toList, Nat.reduceMul, Nat.reduceSub, Nat.reduceLeDiff, ne_eq, eq_self, u_3, ag_3, sz_3, by_3, ze_3, es_3, u_4, ag_4, sz_4, by_4, ze_4, bo_4, es_4, u_9, ag_9, sz_9, by_9, ze_9, es_9, u_38, f_38_0, f_38_1, ag_38, sz_38, by_38, ze_38, pl_38, es_38, u_44, ag_44, sz_44, by_44, ze_44, es_44, u_49, f_49_0, f_49_1, ag_49, sz_49, by_49, ze_49, pl_49, es_49, u_53, ag_53, sz_53, by_53, ze_53, es_53, u_58, ag_58, sz_58, by_58, ze_58, es_58, ↓AW_loop, s0, s0', s1]
  have gy : (P ++ (A ++ y :: S))[m]? = some y := by rw [← List.append_assoc]; exact get_mid (P ++ A) S y m (by rw [List.length_append]; omega)
  have gA : ∀ k, a ≤ k → k < m → (P ++ (A ++ y :: S))[k]? = A[k - a]? := fun k h1 h2 => by
    rw [List.getElem?_append_right (by omega), List.getElem?_append_left (by omega), ha]
  refine LW_rule (fun n fr h' => ∃ (i j : Nat), n = j - i ∧ a ≤ i ∧ i ≤ j ∧ j ≤ m ∧ (∀ x, x ∈ A.take (i - a) → keyE x ≤ keyE y) ∧ (∀ x, x ∈ A.drop (j - a) → keyE y < keyE x) ∧ fget fr 14 = .int .i64 i ∧ fget fr 15 = .int .i64 j ∧ fget fr 0 = .slice (some ⟨d, 0, none⟩) N z ∧ fget fr 2 = .int .i64 m ∧ fget fr 4 = cmpV ∧
      RowAt h' d (P ++ (A ++ y :: S)) ∧ Upd h h' [d] [d]) ?_ (m - a) _ _ ⟨a, m, rfl, by omega, by omega, by omega, by simp, by rw [List.drop_of_length_le (by omega)]; simp, ?_⟩
  · rintro n fr h' ⟨i, j, hn, hmi, hij, hjb, hlo, hhi, f14, f15, f0, f2, f4, hr, hu⟩
    by_cases hlt : i < j
    · have hlt' : (i : Int) < j := by omega
      have hadd : (i : Int) + j = ((i + j : Nat) : Int) := by omega
      obtain ⟨k, hk⟩ : ∃ k, (i + j) / 2 = k := ⟨_, rfl⟩
      obtain ⟨x, hx⟩ : ∃ x, A[k - a]? = some x := ⟨_, List.getElem?_eq_getElem (by omega)⟩
      have gx := gA k (by omega) (by omega)
      rw [hx] at gx
      have hw1 := half_u (i + j) (by omega)
      have q1 : (m : Int) < N := by omega
      have q2 : (k : Int) < N := by omega
      have l1 := row_le elE_len gy
      have l2 := row_le elE_len gx
      have c1 := flatMap_chunk elE_len _ _ _ gy
      have c2 := flatMap_chunk elE_len _ _ _ gx
      have hr' := hr
      unfold RowAt at hr'
      obtain ⟨D, hD⟩ : ∃ D, P ++ (A ++ y :: S) = D := ⟨_, rfl⟩
      rw [hD] at hr' l1 l2 c1 c2
      simp -dsimp -implicitDefEqProofs (disch := first | omega | (simp only [stT, u_3, ag_3, sz_3, by_3, ze_3, es_3, u_4, ag_4, sz_4, by_4, ze_4, bo_4, es_4, u_9, ag_9, sz_9, by_9, ze_9, es_9, u_38, f_38_0, f_38_1, ag_38, sz_38, by_38, ze_38, pl_38, es_38, u_44, ag_44, sz_44, by_44, ze_44, es_44, u_49, f_49_0, f_49_1, ag_49, sz_49, by_49, ze_49, pl_49, es_49, u_53, ag_53, sz_53, by_53, ze_53, es_53, u_58, ag_58, sz_58, by_58, ze_58, es_58]; done) | (simp only [List.append_assoc, List.cons_append, List.nil_append, pre_n, pre_c, pre_a, pre_g, pre_r]; done) | (simp only [List.length_set]; done) | (simp only [List.length_set]; omega) | assumption | decide +kernel | fail) only [↓RP, RQ, isConstA, Nat.reduceEqDiff, Nat.reduceLT, Nat.reduceAdd, Int.reduceNeg, Int.reduceLT, Int.reduceLE, Int.reduceToNat, Int.reduceEq, ↓reduceIte, ite_true, ite_false, Option.toList, Nat.reduceMul, Nat.reduceSub, Nat.reduceLeDiff, ne_eq, eq_self, u_3, ag_3, sz_3, by_3, ze_3, es_3, u_4, ag_4, sz_4, by_4, ze_4, bo_4, es_4, u_9, ag_9, sz_9, by_9, ze_9, es_9, u_38, f_38_0, f_38_1, ag_38, sz_38, by_38, ze_38, pl_38, es_38, u_44, ag_44, sz_44, by_44, ze_44, es_44, u_49, f_49_0, f_49_1, ag_49, sz_49, by_49, ze_49, pl_49, es_49, u_53, ag_53, sz_53, by_53, ze_53, es_53, u_58, ag_58, sz_58, by_58, ze_58, es_58, ↓AW_loop, f14, f15, f0, f2, f4, hlt', hadd, hw1, shr1, hk, hr', q1, q2, l1, l2, c1, c2, cmpV]
      refine ⟨by decide +kernel, ?_⟩
      refine (cmp_q y x hok (hokA x (List.mem_of_getElem? hx)) _).use' fun g => ?_
      by_cases hc : keyE y < keyE x
      · have hc' : keyE y - keyE x < 0 := by omega
        simp -dsimp -implicitDefEqProofs (disch := first | omega | (simp only [stT, u_3, ag_3, sz_3, by_3, ze_3, es_3, u_4, ag_4, sz_4, by_4, ze_4, bo_4, es_4, u_9, ag_9, sz_9, by_9, ze_9, es_9, u_38, f_38_0, f_38_1, ag_38, sz_38, by_38, ze_38, pl_38, es_38, u_44, ag_44, sz_44, by_44, ze_44, es_44, u_49, f_49_0, f_49_1, ag_49, sz_49, by_49, ze_49, pl_49, es_49, u_53, ag_53, sz_53, by_53, ze_53, es_53, u_58, ag_58, sz_58, by_58, ze_58, es_58]; done) | (simp only [List.append_assoc, List.cons_append, List.nil_append, pre_n, pre_c, pre_a, pre_g, pre_r]; done) | (simp only [List.length_set]; done) | (simp only [List.length_set]; omega) | assumption | decide +kernel | fail) only [↓RP, RQ, isConstA, Nat.reduceEqDiff, Nat.reduceLT, Nat.reduceAdd, Int.reduceNeg, Int.reduceLT, Int.reduceLE, Int.reduceToNat, Int.reduceEq, ↓reduceIte, ite_true, ite_false, Option.toList, Nat.reduceMul, Nat.reduceSub, Nat.reduceLeDiff, ne_eq, eq_self, u_3, ag_3, sz_3, by_3, ze_3, es_3, u_4, ag_4, sz_4, by_4, ze_4, bo_4, es_4, u_9, ag_9, sz_9, by_9, ze_9, es_9, u_38, f_38_0, f_38_1, ag_38, sz_38, by_38, ze_38, pl_38, es_38, u_44, ag_44, sz_44, by_44, ze_44, es_44, u_49, f_49_0, f_49_1, ag_49, sz_49, by_49, ze_49, pl_49, es_49, u_53, ag_53, sz_53, by_53, ze_53, es_53, u_58, ag_58, sz_58, by_58, ze_58, es_58, ↓AW_loop, f14, f15, f0, f2, f4, hc']
        refine ⟨k - i, by omega, i, k, rfl, hmi, by omega, by omega, hlo, fun u hu => ?_, rfl, rfl, rfl, ?_, hu.more g⟩
        · have := sorted_drop keyE hA hx u hu
          omega
        · rw [hD]; exact blkA_app g hr'
      · have hc' : ¬ keyE y - keyE x < 0 := by omega
        simp -dsimp -implicitDefEqProofs (disch := first | omega | (simp only [stT, u_3, ag_3, sz_3, by_3, ze_3, es_3, u_4, ag_4, sz_4, by_4, ze_4, bo_4, es_4, u_9, ag_9, sz_9, by_9, ze_9, es_9, u_38, f_38_0, f_38_1, ag_38, sz_38, by_38, ze_38, pl_38, es_38, u_44, ag_44, sz_44, by_44, ze_44, es_44, u_49, f_49_0, f_49_1, ag_49, sz_49, by_49, ze_49, pl_49, es_49, u_53, ag_53, sz_53, by_53, ze_53, es_53, u_58, ag_58, sz_58, by_58, ze_58, es_58]; done) | (simp only [List.append_assoc, List.cons_append, List.nil_append, pre_n, pre_c, pre_a, pre_g, pre_r]; done) | (simp only [List.length_set]; done) | (simp only [List.length_set]; omega) | assumption | decide +kernel | fail) only [↓RP, RQ, isConstA, Nat.reduceEqDiff, Nat.reduceLT, Nat.reduceAdd, Int.reduceNeg, Int.reduceLT, Int.reduceLE, Int.reduceToNat, Int.reduceEq, ↓reduceIte, ite_true, ite_false, Option.toList, Nat.reduceMul, Nat.reduceSub, Nat.reduceLeDiff, ne_eq, eq_self, u_3, ag_3, sz_3, by_3, ze_3, es_3, u_4, ag_4, sz_4, by_4, ze_4, bo_4, es_4, u_9, ag_9, sz_9, by_9, ze_9, es_9, u_38, f_38_0, f_38_1, ag_38, sz_38, by_38, ze_38, pl_38, es_38, u_44, ag_44, sz_44, by_44, ze_44, es_44, u_49, f_49_0, f_49_1, ag_49, sz_49, by_49, ze_49, pl_49, es_49, u_53, ag_53, sz_53, by_53, ze_53, es_53, u_58, ag_58, sz_58, by_58, ze_58, es_58, ↓AW_loop, f14, f15, f0, f2, f4, hc']
        refine ⟨j - (k + 1), by omega, k + 1, j, rfl, by omega, by omega, hjb, fun u hu => ?_, hhi, rfl, rfl, rfl, ?_, hu.more g⟩
        · rw [show k + 1 - a = k - a + 1 by omega] at hu
          have := sorted_take keyE hA hx u hu
          omega
        · rw [hD]; exact blkA_app g hr'
    · have hlt' : ¬ (i : Int) < j := by omega
      obtain rfl : i = j := by omega
      simp -dsimp -implicitDefEqProofs (disch := first | omega | (simp only [stT, u_3, ag_3, sz_3, by_3, ze_3, es_3, u_4, ag_4, sz_4, by_4, ze_4, bo_4, es_4, u_9, ag_9, sz_9, by_9, ze_9, es_9, u_38, f_38_0, f_38_1, ag_38, sz_38, by_38, ze_38, pl_38, es_38, u_44, ag_44, sz_44, by_44, ze_44, es_44, u_49, f_49_0, f_49_1, ag_49, sz_49, by_49, ze_49, pl_49, es_49, u_53, ag_53, sz_53, by_53, ze_53, es_53, u_58, ag_58, sz_58, by_58, ze_58, es_58]; done) | (simp only [List.append_assoc, List.cons_append, List.nil_append, pre_n, pre_c, pre_a, pre_g, pre_r]; done) | (simp only [List.length_set]; done) | (simp only [List.length_set]; omega) | assumption | decide +kernel | fail) only [↓RP, RQ, isConstA, Nat.reduceEqDiff, Nat.reduceLT, Nat.reduceAdd, Int.reduceNeg, Int.reduceLT, Int.reduceLE, Int.reduceToNat, Int.reduceEq, ↓reduceIte, ite_true, ite_false, Option.toList, Nat.reduceMul, Nat.reduceSub, Nat.reduceLeDiff, ne_eq, eq_self, u_3, ag_3, sz_3, by_3, ze_3, es_3, u_4, ag_4, sz_4, by_4, ze_4, bo_4, es_4, u_9, ag_9, sz_9, by_9, ze_9, es_9, u_38, f_38_0, f_38_1, ag_38, sz_38, by_38, ze_38, pl_38, es_38, u_44, ag_44, sz_44, by_44, ze_44, es_44, u_49, f_49_0, f_49_1, ag_49, sz_49, by_49, ze_49, pl_49, es_49, u_53, ag_53, sz_53, by_53, ze_53, es_53, u_58, ag_58, sz_58, by_58, ze_58, es_58, ↓AW_loop, f14, f15, f0, f2, f4, hlt']
      have hAs : A = A.take (i - a) ++ A.drop (i - a) := (List.take_append_drop _ _).symm
      have hl1 : (A.take (i - a)).length = i - a := by rw [List.length_take]; omega
      have hl2 : (A.drop (i - a)).length = A.length - (i - a) := List.length_drop
      have hmg := mrg_one_right keyE y _ _ hlo hhi
      rw [← hAs] at hmg
      generalize A.take (i - a) = A1 at *
      generalize A.drop (i - a) = A2 at *
      rw [hAs] at hr
      rw [hmg]
      refine LW_rule (fun n fr h' => ∃ (k : Nat) (U V : List El), U ++ V = A2 ∧ k = i + U.length ∧ n = U.length ∧ fget fr 17 = .int .i64 k ∧ fget fr 14 = .int .i64 i ∧ fget fr 0 = .slice (some ⟨d, 0, none⟩) N z ∧ RowAt h' d (P ++ (A1 ++ (U ++ y :: (V ++ S)))) ∧ Upd h h' [d] [d]) ?_ A2.length _ _ ⟨m, A2, [], by simp, by omega, rfl, ?_⟩
      · rintro n fr h2 ⟨k, U, V, hUV, hk, hn2, f17, f14, f0, hr2, hu2⟩
        by_cases hU : U = []
        · subst hU
          have hki : ¬ (i : Int) < k := by simp only [List.length_nil] at hk; omega
          simp -dsimp -implicitDefEqProofs (disch := first | omega | (simp only [stT, u_3, ag_3, sz_3, by_3, ze_3, es_3, u_4, ag_4, sz_4, by_4, ze_4, bo_4, es_4, u_9, ag_9, sz_9, by_9, ze_9, es_9, u_38, f_38_0, f_38_1, ag_38, sz_38, by_38, ze_38, pl_38, es_38, u_44, ag_44, sz_44, by_44, ze_44, es_44, u_49, f_49_0, f_49_1, ag_49, sz_49, by_49, ze_49, pl_49, es_49, u_53, ag_53, sz_53, by_53, ze_53, es_53, u_58, ag_58, sz_58, by_58, ze_58, es_58]; done) | (simp only [List.append_assoc, List.cons_append, List.nil_append, pre_n, pre_c, pre_a, pre_g, pre_r]; done) | (simp only [List.length_set]; done) | (simp only [List.length_set]; omega) | assumption | decide +kernel | fail) only [↓RP, RQ, isConstA, Nat.reduceEqDiff, Nat.reduceLT, Nat.reduceAdd, Int.reduceNeg, Int.reduceLT, Int.reduceLE, Int.reduceToNat, Int.reduceEq, ↓reduceIte, ite_true, ite_false, Option.toList, Nat.reduceMul, Nat.reduceSub, Nat.reduceLeDiff, ne_eq, eq_self, u_3, ag_3, sz_3, by_3, ze_3, es_3, u_4, ag_4, sz_4, by_4, ze_4, bo_4, es_4, u_9, ag_9, sz_9, by_9, ze_9, es_9, u_38, f_38_0, f_38_1, ag_38, sz_38, by_38, ze_38, pl_38, es_38, u_44, ag_44, sz_44, by_44, ze_44, es_44, u_49, f_49_0, f_49_1, ag_49, sz_49, by_49, ze_49, pl_49, es_49, u_53, ag_53, sz_53, by_53, ze_53, es_53, u_58, ag_58, sz_58, by_58, ze_58, es_58, ↓AW_loop, f17, f14, f0, hki]
          rw [List.nil_append] at hUV
          subst hUV
          exact ⟨hr2, hu2⟩
        · obtain ⟨U, x, rfl⟩ : ∃ U' x, U = U' ++ [x] := ⟨U.dropLast, U.getLast hU, (List.dropLast_concat_getLast hU).symm⟩
          have hki : (i : Int) < k := by simp only [List.length_append, List.length_singleton] at hk; omega
          have e0 : P ++ (A1 ++ (U ++ [x] ++ y :: (V ++ S))) = (P ++ (A1 ++ U)) ++ x :: y :: (V ++ S) := by simp
          rw [e0] at hr2
          obtain ⟨gx2, gy2⟩ := get_adj (P ++ (A1 ++ U)) (V ++ S) y x
          have sw := swap_adj (P ++ (A1 ++ U)) (V ++ S) y x
          have hkl : (P ++ (A1 ++ U)).length + 1 = k := by simp only [List.length_append, List.length_singleton] at hk ⊢; omega
          have hkl2 : (P ++ (A1 ++ U)).length = k - 1 := by omega
          rw [hkl] at gy2 sw
          rw [hkl2] at gx2 sw
          have hUl := congrArg List.length hUV
          have hAl := congrArg List.length hAs
          simp only [List.length_append, List.length_singleton] at hUl hAl
          obtain ⟨D', hD⟩ : ∃ D', (P ++ (A1 ++ U)) ++ x :: y :: (V ++ S) = D' := ⟨_, rfl⟩
          rw [hD] at hr2 gx2 gy2 sw
          have hk1 : (k : Int) - 1 = ((k - 1 : Nat) : Int) := by omega
          have hkN : k < D'.length := (List.getElem?_eq_some_iff.1 gy2).1
          have hDl : D'.length = N := by rw [← hD]; simp only [List.length_append, List.length_cons]; omega
          have q1 : (k : Int) < N := by omega
          have q2 : ((k - 1 : Nat) : Int) < N := by omega
          have l1 := row_le elE_len gx2
          have l2 := row_le elE_len gy2
          have c1 := flatMap_chunk elE_len D' _ _ gx2
          have c2 := flatMap_chunk elE_len D' _ _ gy2
          have p1 := row_put elE_len D' k x (by omega)
          have p2 := row_put elE_len (D'.set k x) (k - 1) y (by rw [List.length_set]; omega)
          have l3 : (k - 1) * 3 + 3 ≤ ((D'.set k x).flatMap elE).length := by rw [flatMap_len elE_len, List.length_set]; rw [flatMap_len elE_len] at l1; exact l1
          have hdlt := blkA_lt hr2
          have hs0 : ∀ X, blkA (h2.set d (some (.cells X))) d = some X := fun X => blk_setB0 hdlt
          have o1 := elE_one x
          have o2 := elE_one y
          have e1 := elE_len x
          have e2 := elE_len y
          unfold RowAt at hr2
          simp -dsimp -implicitDefEqProofs (disch := first | omega | (simp only [stT, u_3, ag_3, sz_3, by_3, ze_3, es_3, u_4, ag_4, sz_4, by_4, ze_4, bo_4, es_4, u_9, ag_9, sz_9, by_9, ze_9, es_9, u_38, f_38_0, f_38_1, ag_38, sz_38, by_38, ze_38, pl_38, es_38, u_44, ag_44, sz_44, by_44, ze_44, es_44, u_49, f_49_0, f_49_1, ag_49, sz_49, by_49, ze_49, pl_49, es_49, u_53, ag_53, sz_53, by_53, ze_53, es_53, u_58, ag_58, sz_58, by_58, ze_58, es_58]; done) | (simp only [List.append_assoc, List.cons_append, List.nil_append, pre_n, pre_c, pre_a, pre_g, pre_r]; done) | (simp only [List.length_set]; done) | (simp only [List.length_set]; omega) | assumption | decide +kernel | fail) only [↓RP, RQ, isConstA, Nat.reduceEqDiff, Nat.reduceLT, Nat.reduceAdd, Int.reduceNeg, Int.reduceLT, Int.reduceLE, Int.reduceToNat, Int.reduceEq, ↓reduceIte, ite_true, ite_false, Option.toList, Nat.reduceMul, Nat.reduceSub, Nat.reduceLeDiff, ne_eq, eq_self, u_3, ag_3, sz_3, by_3, ze_3, es_3, u_4, ag_4, sz_4, by_4, ze_4, bo_4, es_4, u_9, ag_9, sz_9, by_9, ze_9, es_9, u_38, f_38_0, f_38_1, ag_38, sz_38, by_38, ze_38, pl_38, es_38, u_44, ag_44, sz_44, by_44, ze_44, es_44, u_49, f_49_0, f_49_1, ag_49, sz_49, by_49, ze_49, pl_49, es_49, u_53, ag_53, sz_53, by_53, ze_53, es_53, u_58, ag_58, sz_58, by_58, ze_58, es_58, ↓AW_loop, f17, f14, f0, hki, hr2, hk1, q1, q2, l1, l2, c1, c2, p1, p2, l3, hs0, o1, o2, e1, e2, set_twice]
          refine ⟨by decide +kernel, U.length, by rw [hn2]; simp, k - 1, U, x :: V, by rw [← hUV]; simp, by simp only [List.length_append, List.length_singleton] at hk; omega, rfl, rfl, ?_, hu2.set (by simp)⟩
          unfold RowAt
          rw [hs0, sw]
          simp
      · simp -dsimp -implicitDefEqProofs (disch := first | omega | (simp only [stT, u_3, ag_3, sz_3, by_3, ze_3, es_3, u_4, ag_4, sz_4, by_4, ze_4, bo_4, es_4, u_9, ag_9, sz_9, by_9, ze_9, es_9, u_38, f_38_0, f_38_1, ag_38, sz_38, by_38, ze_38, pl_38, es_38, u_44, ag_44, sz_44, by_44, ze_44, es_44, u_49, f_49_0, f_49_1, ag_49, sz_49, by_49, ze_49, pl_49, es_49, u_53, ag_53, sz_53, by_53, ze_53, es_53, u_58, ag_58, sz_58, by_58, ze_58, es_58]; done) | (simp only [List.append_assoc, List.cons_append, List.nil_append, pre_n, pre_c, pre_a, pre_g, pre_r]; done) | (simp only [List.length_set]; done) | (simp only [List.length_set]; omega) | assumption | decide +kernel | fail) only [↓RP, RQ, isConstA, Nat.reduceEqDiff, Nat.reduceLT, Nat.reduceAdd, Int.reduceNeg, Int.reduceLT, Int.reduceLE, Int.reduceToNat, Int.reduceEq, ↓reduceIte, ite_true, ite_false, Option.toList, Nat.reduceMul, Nat.reduceSub, Nat.reduceLeDiff, ne_eq, eq_self, u_3, ag_3, sz_3, by_3, ze_3, es_3, u_4, ag_4, sz_4, by_4, ze_4, bo_4, es_4, u_9, ag_9, sz_9, by_9, ze_9, es_9, u_38, f_38_0, f_38_1, ag_38, sz_38, by_38, ze_38, pl_38, es_38, u_44, ag_44, sz_44, by_44, ze_44, es_44, u_49, f_49_0, f_49_1, ag_49, sz_49, by_49, ze_49, pl_49, es_49, u_53, ag_53, sz_53, by_53, ze_53, es_53, u_58, ag_58, sz_58, by_58, ze_58, es_58, ↓AW_loop]
        rw [List.append_assoc] at hr
        exact ⟨f14, f0, hr, hu⟩
  · simp -dsimp -implicitDefEqProofs (disch := first | omega | (simp only [stT, u_3, ag_3, sz_3, by_3, ze_3, es_3, u_4, ag_4, sz_4, by_4, ze_4, bo_4, es_4, u_9, ag_9, sz_9, by_9, ze_9, es_9, u_38, f_38_0, f_38_1, ag_38, sz_38, by_38, ze_38, pl_38, es_38, u_44, ag_44, sz_44, by_44, ze_44, es_44, u_49, f_49_0, f_49_1, ag_49, sz_49, by_49, ze_49, pl_49, es_49, u_53, ag_53, sz_53, by_53, ze_53, es_53, u_58, ag_58, sz_58, by_58, ze_58, es_58]; done) | (simp only [List.append_assoc, List.cons_append, List.nil_append, pre_n, pre_c, pre_a, pre_g, pre_r]; done) | (simp only [List.length_set]; done) | (simp only [List.length_set]; omega) | assumption | decide +kernel | fail) only [↓RP, RQ, isConstA, Nat.reduceEqDiff, Nat.reduceLT, Nat.reduceAdd, Int.reduceNeg, Int.reduceLT, Int.reduceLE, Int.reduceToNat, Int.reduceEq, ↓reduceIte, ite_true, ite_false, Option.toList, Nat.reduceMul, Nat.reduceSub, Nat.reduceLeDiff, ne_eq, eq_self, u_3, ag_3, sz_3, by_3, ze_3, es_3, u_4, ag_4, sz_4, by_4, ze_4, bo_4, es_4, u_9, ag_9, sz_9, by_9, ze_9, es_9, u_38, f_38_0, f_38_1, ag_38, sz_38, by_38, ze_38, pl_38, es_38, u_44, ag_44, sz_44, by_44, ze_44, es_44, u_49, f_49_0, f_49_1, ag_49, sz_49, by_49, ze_49, pl_49, es_49, u_53, ag_53, sz_53, by_53, ze_53, es_53, u_58, ag_58, sz_58, by_58, ze_58, es_58, ↓AW_loop]
    exact ⟨hd, Upd.refl _ _⟩
end Go.Abs
