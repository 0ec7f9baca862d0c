/- MuxWindow, part 3 of 6: what the proof of the law rests on. Conditions: none. -/
import Derived.Test.YtknhmkijmbcnhaaProg
import Derived.Test.YtknhmkijmbcnhaaJMuxWindow2
set_option linter.unusedSimpArgs false
set_option linter.unusedVariables false
/- Facts about the types of the program: by the kernel. Conditions: none. -/
namespace Go.Abs
open Go.Proofs
theorem u_0 : Try.prog.underlying 0 = some (TypeDesc.tuple #[]) := by kernel_rfl
theorem ag_0 : isAggA Try.prog 0 = some false := by kernel_rfl
theorem sz_0 : sizeA Try.prog 0 = some 1 := by kernel_rfl
theorem by_0 : bytesA Try.prog 0 = some 0 := by kernel_rfl
theorem ze_0 : zeroA Try.prog 0 = some [Value.tuple #[]] := by kernel_rfl
theorem es_0 : eszA Try.prog 0 = some 1 := by kernel_rfl
theorem u_1 : Try.prog.underlying 1 = some (TypeDesc.func #[] #[] false) := by kernel_rfl
theorem ag_1 : isAggA Try.prog 1 = some false := by kernel_rfl
theorem sz_1 : sizeA Try.prog 1 = some 1 := by kernel_rfl
theorem by_1 : bytesA Try.prog 1 = some 8 := by kernel_rfl
theorem ze_1 : zeroA Try.prog 1 = some [Value.nilFunc] := by kernel_rfl
theorem es_1 : eszA Try.prog 1 = some 1 := by kernel_rfl
theorem u_2 : Try.prog.underlying 2 = some (TypeDesc.int IntKind.i64) := by kernel_rfl
theorem ag_2 : isAggA Try.prog 2 = some false := by kernel_rfl
theorem sz_2 : sizeA Try.prog 2 = some 1 := by kernel_rfl
theorem by_2 : bytesA Try.prog 2 = some 8 := by kernel_rfl
theorem ze_2 : zeroA Try.prog 2 = some [Value.int IntKind.i64 (0)] := by kernel_rfl
theorem es_2 : eszA Try.prog 2 = some 1 := by kernel_rfl
theorem u_3 : Try.prog.underlying 3 = some (TypeDesc.int IntKind.i64) := by kernel_rfl
theorem ag_3 : isAggA Try.prog 3 = some false := by kernel_rfl
theorem sz_3 : sizeA Try.prog 3 = some 1 := by kernel_rfl
theorem by_3 : bytesA Try.prog 3 = some 8 := by kernel_rfl
theorem ze_3 : zeroA Try.prog 3 = some [Value.int IntKind.i64 (0)] := by kernel_rfl
theorem es_3 : eszA Try.prog 3 = some 1 := by kernel_rfl
theorem u_4 : Try.prog.underlying 4 = some TypeDesc.bool := by kernel_rfl
theorem ag_4 : isAggA Try.prog 4 = some false := by kernel_rfl
theorem sz_4 : sizeA Try.prog 4 = some 1 := by kernel_rfl
theorem by_4 : bytesA Try.prog 4 = some 1 := by kernel_rfl
theorem ze_4 : zeroA Try.prog 4 = some [Value.bool false] := by kernel_rfl
theorem bo_4 : isBoolT Try.prog 4 = true := by kernel_rfl
theorem es_4 : eszA Try.prog 4 = some 1 := by kernel_rfl
theorem u_5 : Try.prog.underlying 5 = some (TypeDesc.int IntKind.u8) := by kernel_rfl
theorem ag_5 : isAggA Try.prog 5 = some false := by kernel_rfl
theorem sz_5 : sizeA Try.prog 5 = some 1 := by kernel_rfl
theorem by_5 : bytesA Try.prog 5 = some 1 := by kernel_rfl
theorem ze_5 : zeroA Try.prog 5 = some [Value.int IntKind.u8 (0)] := by kernel_rfl
theorem u8_5 : isU8 Try.prog 5 = true := by kernel_rfl
theorem es_5 : eszA Try.prog 5 = some 1 := by kernel_rfl
theorem u_6 : Try.prog.underlying 6 = some (TypeDesc.int IntKind.u8) := by kernel_rfl
theorem ag_6 : isAggA Try.prog 6 = some false := by kernel_rfl
theorem sz_6 : sizeA Try.prog 6 = some 1 := by kernel_rfl
theorem by_6 : bytesA Try.prog 6 = some 1 := by kernel_rfl
theorem ze_6 : zeroA Try.prog 6 = some [Value.int IntKind.u8 (0)] := by kernel_rfl
theorem u8_6 : isU8 Try.prog 6 = true := by kernel_rfl
theorem es_6 : eszA Try.prog 6 = some 1 := by kernel_rfl
theorem u_7 : Try.prog.underlying 7 = some (TypeDesc.struct #[{ name := "x", type := 2, offset := 0, embedded := false, tag := "", pkgPath := "runtime", byteOffset := 0 }, { name := "y", type := 3, offset := 1, embedded := false, tag := "", pkgPath := "runtime", byteOffset := 8 }, { name := "signed", type := 4, offset := 2, embedded := false, tag := "", pkgPath := "runtime", byteOffset := 16 }, { name := "code", type := 6, offset := 3, embedded := false, tag := "", pkgPath := "runtime", byteOffset := 17 }]) := by kernel_rfl
theorem f_7_0 : fieldA Try.prog 7 0 = some (0, 2) := by kernel_rfl
theorem f_7_1 : fieldA Try.prog 7 1 = some (1, 3) := by kernel_rfl
theorem f_7_2 : fieldA Try.prog 7 2 = some (2, 4) := by kernel_rfl
theorem f_7_3 : fieldA Try.prog 7 3 = some (3, 6) := by kernel_rfl
theorem ag_7 : isAggA Try.prog 7 = some true := by kernel_rfl
theorem sz_7 : sizeA Try.prog 7 = some 4 := by kernel_rfl
theorem by_7 : bytesA Try.prog 7 = some 24 := by kernel_rfl
theorem ze_7 : zeroA Try.prog 7 = some [Value.int IntKind.i64 (0), Value.int IntKind.i64 (0), Value.bool false, Value.int IntKind.u8 (0)] := by kernel_rfl
theorem pl_7 : placesA Try.prog 7 = some [(0, 1), (1, 1), (2, 1), (3, 1)] := by kernel_rfl
theorem es_7 : eszA Try.prog 7 = some 4 := by kernel_rfl
theorem u_8 : Try.prog.underlying 8 = some (TypeDesc.struct #[{ name := "x", type := 2, offset := 0, embedded := false, tag := "", pkgPath := "runtime", byteOffset := 0 }, { name := "y", type := 3, offset := 1, embedded := false, tag := "", pkgPath := "runtime", byteOffset := 8 }, { name := "signed", type := 4, offset := 2, embedded := false, tag := "", pkgPath := "runtime", byteOffset := 16 }, { name := "code", type := 6, offset := 3, embedded := false, tag := "", pkgPath := "runtime", byteOffset := 17 }]) := by kernel_rfl
theorem f_8_0 : fieldA Try.prog 8 0 = some (0, 2) := by kernel_rfl
theorem f_8_1 : fieldA Try.prog 8 1 = some (1, 3) := by kernel_rfl
theorem f_8_2 : fieldA Try.prog 8 2 = some (2, 4) := by kernel_rfl
theorem f_8_3 : fieldA Try.prog 8 3 = some (3, 6) := by kernel_rfl
theorem ag_8 : isAggA Try.prog 8 = some true := by kernel_rfl
theorem sz_8 : sizeA Try.prog 8 = some 4 := by kernel_rfl
theorem by_8 : bytesA Try.prog 8 = some 24 := by kernel_rfl
theorem ze_8 : zeroA Try.prog 8 = some [Value.int IntKind.i64 (0), Value.int IntKind.i64 (0), Value.bool false, Value.int IntKind.u8 (0)] := by kernel_rfl
theorem pl_8 : placesA Try.prog 8 = some [(0, 1), (1, 1), (2, 1), (3, 1)] := by kernel_rfl
theorem es_8 : eszA Try.prog 8 = some 4 := by kernel_rfl
theorem u_9 : Try.prog.underlying 9 = some TypeDesc.string := by kernel_rfl
theorem ag_9 : isAggA Try.prog 9 = some false := by kernel_rfl
theorem sz_9 : sizeA Try.prog 9 = some 1 := by kernel_rfl
theorem by_9 : bytesA Try.prog 9 = some 16 := by kernel_rfl
theorem ze_9 : zeroA Try.prog 9 = some [Value.string ⟨#[]⟩] := by kernel_rfl
theorem es_9 : eszA Try.prog 9 = some 1 := by kernel_rfl
theorem u_10 : Try.prog.underlying 10 = some TypeDesc.string := by kernel_rfl
theorem ag_10 : isAggA Try.prog 10 = some false := by kernel_rfl
theorem sz_10 : sizeA Try.prog 10 = some 1 := by kernel_rfl
theorem by_10 : bytesA Try.prog 10 = some 16 := by kernel_rfl
theorem ze_10 : zeroA Try.prog 10 = some [Value.string ⟨#[]⟩] := by kernel_rfl
theorem es_10 : eszA Try.prog 10 = some 1 := by kernel_rfl
theorem u_11 : Try.prog.underlying 11 = some TypeDesc.string := by kernel_rfl
theorem ag_11 : isAggA Try.prog 11 = some false := by kernel_rfl
theorem sz_11 : sizeA Try.prog 11 = some 1 := by kernel_rfl
theorem by_11 : bytesA Try.prog 11 = some 16 := by kernel_rfl
theorem ze_11 : zeroA Try.prog 11 = some [Value.string ⟨#[]⟩] := by kernel_rfl
theorem es_11 : eszA Try.prog 11 = some 1 := by kernel_rfl
theorem u_12 : Try.prog.underlying 12 = some (TypeDesc.int IntKind.u64) := by kernel_rfl
theorem ag_12 : isAggA Try.prog 12 = some false := by kernel_rfl
theorem sz_12 : sizeA Try.prog 12 = some 1 := by kernel_rfl
theorem by_12 : bytesA Try.prog 12 = some 8 := by kernel_rfl
theorem ze_12 : zeroA Try.prog 12 = some [Value.int IntKind.u64 (0)] := by kernel_rfl
theorem es_12 : eszA Try.prog 12 = some 1 := by kernel_rfl
theorem u_13 : Try.prog.underlying 13 = some (TypeDesc.struct #[{ name := "msg", type := 9, offset := 0, embedded := false, tag := "", pkgPath := "runtime", byteOffset := 0 }, { name := "addr", type := 12, offset := 1, embedded := false, tag := "", pkgPath := "runtime", byteOffset := 16 }]) := by kernel_rfl
theorem f_13_0 : fieldA Try.prog 13 0 = some (0, 9) := by kernel_rfl
theorem f_13_1 : fieldA Try.prog 13 1 = some (1, 12) := by kernel_rfl
theorem ag_13 : isAggA Try.prog 13 = some true := by kernel_rfl
theorem sz_13 : sizeA Try.prog 13 = some 2 := by kernel_rfl
theorem by_13 : bytesA Try.prog 13 = some 24 := by kernel_rfl
theorem ze_13 : zeroA Try.prog 13 = some [Value.string ⟨#[]⟩, Value.int IntKind.u64 (0)] := by kernel_rfl
theorem pl_13 : placesA Try.prog 13 = some [(0, 1), (1, 1)] := by kernel_rfl
theorem es_13 : eszA Try.prog 13 = some 2 := by kernel_rfl
theorem u_14 : Try.prog.underlying 14 = some (TypeDesc.struct #[{ name := "msg", type := 9, offset := 0, embedded := false, tag := "", pkgPath := "runtime", byteOffset := 0 }, { name := "addr", type := 12, offset := 1, embedded := false, tag := "", pkgPath := "runtime", byteOffset := 16 }]) := by kernel_rfl
theorem f_14_0 : fieldA Try.prog 14 0 = some (0, 9) := by kernel_rfl
theorem f_14_1 : fieldA Try.prog 14 1 = some (1, 12) := by kernel_rfl
theorem ag_14 : isAggA Try.prog 14 = some true := by kernel_rfl
theorem sz_14 : sizeA Try.prog 14 = some 2 := by kernel_rfl
theorem by_14 : bytesA Try.prog 14 = some 24 := by kernel_rfl
theorem ze_14 : zeroA Try.prog 14 = some [Value.string ⟨#[]⟩, Value.int IntKind.u64 (0)] := by kernel_rfl
theorem pl_14 : placesA Try.prog 14 = some [(0, 1), (1, 1)] := by kernel_rfl
theorem es_14 : eszA Try.prog 14 = some 2 := by kernel_rfl
theorem u_15 : Try.prog.underlying 15 = some (TypeDesc.pointer 101) := by kernel_rfl
theorem ag_15 : isAggA Try.prog 15 = some false := by kernel_rfl
theorem sz_15 : sizeA Try.prog 15 = some 1 := by kernel_rfl
theorem by_15 : bytesA Try.prog 15 = some 8 := by kernel_rfl
theorem ze_15 : zeroA Try.prog 15 = some [Value.pointer none] := by kernel_rfl
theorem es_15 : eszA Try.prog 15 = some 1 := by kernel_rfl
theorem u_16 : Try.prog.underlying 16 = some (TypeDesc.pointer 104) := by kernel_rfl
theorem ag_16 : isAggA Try.prog 16 = some false := by kernel_rfl
theorem sz_16 : sizeA Try.prog 16 = some 1 := by kernel_rfl
theorem by_16 : bytesA Try.prog 16 = some 8 := by kernel_rfl
theorem ze_16 : zeroA Try.prog 16 = some [Value.pointer none] := by kernel_rfl
theorem es_16 : eszA Try.prog 16 = some 1 := by kernel_rfl
theorem u_17 : Try.prog.underlying 17 = some (TypeDesc.pointer 111) := by kernel_rfl
theorem ag_17 : isAggA Try.prog 17 = some false := by kernel_rfl
theorem sz_17 : sizeA Try.prog 17 = some 1 := by kernel_rfl
theorem by_17 : bytesA Try.prog 17 = some 8 := by kernel_rfl
theorem ze_17 : zeroA Try.prog 17 = some [Value.pointer none] := by kernel_rfl
theorem es_17 : eszA Try.prog 17 = some 1 := by kernel_rfl
theorem u_18 : Try.prog.underlying 18 = some (TypeDesc.struct #[{ name := "typ", type := 17, offset := 0, embedded := false, tag := "", pkgPath := "internal/runtime/maps", byteOffset := 0 }]) := by kernel_rfl
theorem f_18_0 : fieldA Try.prog 18 0 = some (0, 17) := by kernel_rfl
theorem ag_18 : isAggA Try.prog 18 = some true := by kernel_rfl
theorem sz_18 : sizeA Try.prog 18 = some 1 := by kernel_rfl
theorem by_18 : bytesA Try.prog 18 = some 8 := by kernel_rfl
theorem ze_18 : zeroA Try.prog 18 = some [Value.pointer none] := by kernel_rfl
theorem pl_18 : placesA Try.prog 18 = some [(0, 1)] := by kernel_rfl
theorem es_18 : eszA Try.prog 18 = some 1 := by kernel_rfl
theorem u_19 : Try.prog.underlying 19 = some (TypeDesc.struct #[{ name := "typ", type := 17, offset := 0, embedded := false, tag := "", pkgPath := "internal/runtime/maps", byteOffset := 0 }]) := by kernel_rfl
theorem f_19_0 : fieldA Try.prog 19 0 = some (0, 17) := by kernel_rfl
theorem ag_19 : isAggA Try.prog 19 = some true := by kernel_rfl
theorem sz_19 : sizeA Try.prog 19 = some 1 := by kernel_rfl
theorem by_19 : bytesA Try.prog 19 = some 8 := by kernel_rfl
theorem ze_19 : zeroA Try.prog 19 = some [Value.pointer none] := by kernel_rfl
theorem pl_19 : placesA Try.prog 19 = some [(0, 1)] := by kernel_rfl
theorem es_19 : eszA Try.prog 19 = some 1 := by kernel_rfl
theorem u_20 : Try.prog.underlying 20 = some (TypeDesc.interface #[]) := by kernel_rfl
theorem ag_20 : isAggA Try.prog 20 = some false := by kernel_rfl
theorem sz_20 : sizeA Try.prog 20 = some 1 := by kernel_rfl
theorem by_20 : bytesA Try.prog 20 = some 16 := by kernel_rfl
theorem ze_20 : zeroA Try.prog 20 = some [Value.nilIface] := by kernel_rfl
theorem es_20 : eszA Try.prog 20 = some 1 := by kernel_rfl
theorem u_21 : Try.prog.underlying 21 = some (TypeDesc.int IntKind.i32) := by kernel_rfl
theorem ag_21 : isAggA Try.prog 21 = some false := by kernel_rfl
theorem sz_21 : sizeA Try.prog 21 = some 1 := by kernel_rfl
theorem by_21 : bytesA Try.prog 21 = some 4 := by kernel_rfl
theorem ze_21 : zeroA Try.prog 21 = some [Value.int IntKind.i32 (0)] := by kernel_rfl
theorem es_21 : eszA Try.prog 21 = some 1 := by kernel_rfl
theorem u_22 : Try.prog.underlying 22 = some (TypeDesc.slice 9) := by kernel_rfl
theorem ag_22 : isAggA Try.prog 22 = some false := by kernel_rfl
theorem sz_22 : sizeA Try.prog 22 = some 1 := by kernel_rfl
theorem by_22 : bytesA Try.prog 22 = some 24 := by kernel_rfl
theorem ze_22 : zeroA Try.prog 22 = some [Value.slice none 0 0] := by kernel_rfl
theorem es_22 : eszA Try.prog 22 = some 1 := by kernel_rfl
theorem u_23 : Try.prog.underlying 23 = some (TypeDesc.slice 3) := by kernel_rfl
theorem ag_23 : isAggA Try.prog 23 = some false := by kernel_rfl
theorem sz_23 : sizeA Try.prog 23 = some 1 := by kernel_rfl
theorem by_23 : bytesA Try.prog 23 = some 24 := by kernel_rfl
theorem ze_23 : zeroA Try.prog 23 = some [Value.slice none 0 0] := by kernel_rfl
theorem es_23 : eszA Try.prog 23 = some 1 := by kernel_rfl
theorem u_24 : Try.prog.underlying 24 = some (TypeDesc.func #[3, 3, 3] #[3] false) := by kernel_rfl
theorem ag_24 : isAggA Try.prog 24 = some false := by kernel_rfl
theorem sz_24 : sizeA Try.prog 24 = some 1 := by kernel_rfl
theorem by_24 : bytesA Try.prog 24 = some 8 := by kernel_rfl
theorem ze_24 : zeroA Try.prog 24 = some [Value.nilFunc] := by kernel_rfl
theorem es_24 : eszA Try.prog 24 = some 1 := by kernel_rfl
theorem u_25 : Try.prog.underlying 25 = some (TypeDesc.array 2 9) := by kernel_rfl
theorem ag_25 : isAggA Try.prog 25 = some true := by kernel_rfl
theorem sz_25 : sizeA Try.prog 25 = some 2 := by kernel_rfl
theorem by_25 : bytesA Try.prog 25 = some 32 := by kernel_rfl
theorem ze_25 : zeroA Try.prog 25 = some [Value.string ⟨#[]⟩, Value.string ⟨#[]⟩] := by kernel_rfl
theorem es_25 : eszA Try.prog 25 = some 1 := by kernel_rfl
theorem u_26 : Try.prog.underlying 26 = some (TypeDesc.pointer 55) := by kernel_rfl
theorem ag_26 : isAggA Try.prog 26 = some false := by kernel_rfl
theorem sz_26 : sizeA Try.prog 26 = some 1 := by kernel_rfl
theorem by_26 : bytesA Try.prog 26 = some 8 := by kernel_rfl
theorem ze_26 : zeroA Try.prog 26 = some [Value.pointer none] := by kernel_rfl
theorem es_26 : eszA Try.prog 26 = some 1 := by kernel_rfl
theorem u_27 : Try.prog.underlying 27 = some (TypeDesc.int IntKind.i64) := by kernel_rfl
theorem ag_27 : isAggA Try.prog 27 = some false := by kernel_rfl
theorem sz_27 : sizeA Try.prog 27 = some 1 := by kernel_rfl
theorem by_27 : bytesA Try.prog 27 = some 8 := by kernel_rfl
theorem ze_27 : zeroA Try.prog 27 = some [Value.int IntKind.i64 (0)] := by kernel_rfl
theorem es_27 : eszA Try.prog 27 = some 1 := by kernel_rfl
theorem u_28 : Try.prog.underlying 28 = some (TypeDesc.tuple #[26, 27]) := by kernel_rfl
theorem ag_28 : isAggA Try.prog 28 = some false := by kernel_rfl
theorem sz_28 : sizeA Try.prog 28 = some 1 := by kernel_rfl
theorem by_28 : bytesA Try.prog 28 = some 0 := by kernel_rfl
theorem ze_28 : zeroA Try.prog 28 = some [Value.tuple #[Value.pointer none, Value.int IntKind.i64 (0)]] := by kernel_rfl
theorem es_28 : eszA Try.prog 28 = some 1 := by kernel_rfl
theorem u_29 : Try.prog.underlying 29 = some (TypeDesc.func #[4, 3] #[26, 27] false) := by kernel_rfl
theorem ag_29 : isAggA Try.prog 29 = some false := by kernel_rfl
theorem sz_29 : sizeA Try.prog 29 = some 1 := by kernel_rfl
theorem by_29 : bytesA Try.prog 29 = some 8 := by kernel_rfl
theorem ze_29 : zeroA Try.prog 29 = some [Value.nilFunc] := by kernel_rfl
theorem es_29 : eszA Try.prog 29 = some 1 := by kernel_rfl
theorem u_30 : Try.prog.underlying 30 = some (TypeDesc.tuple #[3, 27]) := by kernel_rfl
theorem ag_30 : isAggA Try.prog 30 = some false := by kernel_rfl
theorem sz_30 : sizeA Try.prog 30 = some 1 := by kernel_rfl
theorem by_30 : bytesA Try.prog 30 = some 0 := by kernel_rfl
theorem ze_30 : zeroA Try.prog 30 = some [Value.tuple #[Value.int IntKind.i64 (0), Value.int IntKind.i64 (0)]] := by kernel_rfl
theorem es_30 : eszA Try.prog 30 = some 1 := by kernel_rfl
theorem u_31 : Try.prog.underlying 31 = some (TypeDesc.func #[9] #[3, 27] false) := by kernel_rfl
theorem ag_31 : isAggA Try.prog 31 = some false := by kernel_rfl
theorem sz_31 : sizeA Try.prog 31 = some 1 := by kernel_rfl
theorem by_31 : bytesA Try.prog 31 = some 8 := by kernel_rfl
theorem ze_31 : zeroA Try.prog 31 = some [Value.nilFunc] := by kernel_rfl
theorem es_31 : eszA Try.prog 31 = some 1 := by kernel_rfl
theorem u_32 : Try.prog.underlying 32 = some (TypeDesc.func #[3, 9] #[3, 27] false) := by kernel_rfl
theorem ag_32 : isAggA Try.prog 32 = some false := by kernel_rfl
theorem sz_32 : sizeA Try.prog 32 = some 1 := by kernel_rfl
theorem by_32 : bytesA Try.prog 32 = some 8 := by kernel_rfl
theorem ze_32 : zeroA Try.prog 32 = some [Value.nilFunc] := by kernel_rfl
theorem es_32 : eszA Try.prog 32 = some 1 := by kernel_rfl
theorem u_33 : Try.prog.underlying 33 = some (TypeDesc.func #[3] #[27] false) := by kernel_rfl
theorem ag_33 : isAggA Try.prog 33 = some false := by kernel_rfl
theorem sz_33 : sizeA Try.prog 33 = some 1 := by kernel_rfl
theorem by_33 : bytesA Try.prog 33 = some 8 := by kernel_rfl
theorem ze_33 : zeroA Try.prog 33 = some [Value.nilFunc] := by kernel_rfl
theorem es_33 : eszA Try.prog 33 = some 1 := by kernel_rfl
theorem u_34 : Try.prog.underlying 34 = some (TypeDesc.func #[3] #[9] false) := by kernel_rfl
theorem ag_34 : isAggA Try.prog 34 = some false := by kernel_rfl
theorem sz_34 : sizeA Try.prog 34 = some 1 := by kernel_rfl
theorem by_34 : bytesA Try.prog 34 = some 8 := by kernel_rfl
theorem ze_34 : zeroA Try.prog 34 = some [Value.nilFunc] := by kernel_rfl
theorem es_34 : eszA Try.prog 34 = some 1 := by kernel_rfl
theorem u_35 : Try.prog.underlying 35 = some (TypeDesc.func #[23, 3, 3] #[3] false) := by kernel_rfl
theorem ag_35 : isAggA Try.prog 35 = some false := by kernel_rfl
theorem sz_35 : sizeA Try.prog 35 = some 1 := by kernel_rfl
theorem by_35 : bytesA Try.prog 35 = some 8 := by kernel_rfl
theorem ze_35 : zeroA Try.prog 35 = some [Value.nilFunc] := by kernel_rfl
theorem es_35 : eszA Try.prog 35 = some 1 := by kernel_rfl
theorem u_36 : Try.prog.underlying 36 = some (TypeDesc.func #[] #[4] false) := by kernel_rfl
theorem ag_36 : isAggA Try.prog 36 = some false := by kernel_rfl
theorem sz_36 : sizeA Try.prog 36 = some 1 := by kernel_rfl
theorem by_36 : bytesA Try.prog 36 = some 8 := by kernel_rfl
theorem ze_36 : zeroA Try.prog 36 = some [Value.nilFunc] := by kernel_rfl
theorem es_36 : eszA Try.prog 36 = some 1 := by kernel_rfl
theorem u_37 : Try.prog.underlying 37 = some (TypeDesc.func #[3, 22, 23] #[4] false) := by kernel_rfl
theorem ag_37 : isAggA Try.prog 37 = some false := by kernel_rfl
theorem sz_37 : sizeA Try.prog 37 = some 1 := by kernel_rfl
theorem by_37 : bytesA Try.prog 37 = some 8 := by kernel_rfl
theorem ze_37 : zeroA Try.prog 37 = some [Value.nilFunc] := by kernel_rfl
theorem es_37 : eszA Try.prog 37 = some 1 := by kernel_rfl
theorem u_38 : Try.prog.underlying 38 = some (TypeDesc.func #[9] #[27] false) := by kernel_rfl
theorem ag_38 : isAggA Try.prog 38 = some false := by kernel_rfl
theorem sz_38 : sizeA Try.prog 38 = some 1 := by kernel_rfl
theorem by_38 : bytesA Try.prog 38 = some 8 := by kernel_rfl
theorem ze_38 : zeroA Try.prog 38 = some [Value.nilFunc] := by kernel_rfl
theorem es_38 : eszA Try.prog 38 = some 1 := by kernel_rfl
theorem u_39 : Try.prog.underlying 39 = some (TypeDesc.func #[9] #[4] false) := by kernel_rfl
theorem ag_39 : isAggA Try.prog 39 = some false := by kernel_rfl
theorem sz_39 : sizeA Try.prog 39 = some 1 := by kernel_rfl
theorem by_39 : bytesA Try.prog 39 = some 8 := by kernel_rfl
theorem ze_39 : zeroA Try.prog 39 = some [Value.nilFunc] := by kernel_rfl
theorem es_39 : eszA Try.prog 39 = some 1 := by kernel_rfl
theorem u_40 : Try.prog.underlying 40 = some (TypeDesc.slice 5) := by kernel_rfl
theorem ag_40 : isAggA Try.prog 40 = some false := by kernel_rfl
theorem sz_40 : sizeA Try.prog 40 = some 1 := by kernel_rfl
theorem by_40 : bytesA Try.prog 40 = some 24 := by kernel_rfl
theorem ze_40 : zeroA Try.prog 40 = some [Value.slice none 0 0] := by kernel_rfl
theorem es_40 : eszA Try.prog 40 = some 1 := by kernel_rfl
theorem u_41 : Try.prog.underlying 41 = some (TypeDesc.func #[] #[23] false) := by kernel_rfl
theorem ag_41 : isAggA Try.prog 41 = some false := by kernel_rfl
theorem sz_41 : sizeA Try.prog 41 = some 1 := by kernel_rfl
theorem by_41 : bytesA Try.prog 41 = some 8 := by kernel_rfl
theorem ze_41 : zeroA Try.prog 41 = some [Value.nilFunc] := by kernel_rfl
theorem es_41 : eszA Try.prog 41 = some 1 := by kernel_rfl
theorem u_42 : Try.prog.underlying 42 = some (TypeDesc.func #[3, 3] #[4] false) := by kernel_rfl
theorem ag_42 : isAggA Try.prog 42 = some false := by kernel_rfl
theorem sz_42 : sizeA Try.prog 42 = some 1 := by kernel_rfl
theorem by_42 : bytesA Try.prog 42 = some 8 := by kernel_rfl
theorem ze_42 : zeroA Try.prog 42 = some [Value.nilFunc] := by kernel_rfl
theorem es_42 : eszA Try.prog 42 = some 1 := by kernel_rfl
theorem u_43 : Try.prog.underlying 43 = some (TypeDesc.tuple #[22, 22]) := by kernel_rfl
theorem ag_43 : isAggA Try.prog 43 = some false := by kernel_rfl
theorem sz_43 : sizeA Try.prog 43 = some 1 := by kernel_rfl
theorem by_43 : bytesA Try.prog 43 = some 0 := by kernel_rfl
theorem ze_43 : zeroA Try.prog 43 = some [Value.tuple #[Value.slice none 0 0, Value.slice none 0 0]] := by kernel_rfl
theorem es_43 : eszA Try.prog 43 = some 1 := by kernel_rfl
theorem u_44 : Try.prog.underlying 44 = some (TypeDesc.func #[26, 26, 23, 3] #[22, 22] false) := by kernel_rfl
theorem ag_44 : isAggA Try.prog 44 = some false := by kernel_rfl
theorem sz_44 : sizeA Try.prog 44 = some 1 := by kernel_rfl
theorem by_44 : bytesA Try.prog 44 = some 8 := by kernel_rfl
theorem ze_44 : zeroA Try.prog 44 = some [Value.nilFunc] := by kernel_rfl
theorem es_44 : eszA Try.prog 44 = some 1 := by kernel_rfl
theorem u_45 : Try.prog.underlying 45 = some (TypeDesc.func #[22, 22] #[4] false) := by kernel_rfl
theorem ag_45 : isAggA Try.prog 45 = some false := by kernel_rfl
theorem sz_45 : sizeA Try.prog 45 = some 1 := by kernel_rfl
theorem by_45 : bytesA Try.prog 45 = some 8 := by kernel_rfl
theorem ze_45 : zeroA Try.prog 45 = some [Value.nilFunc] := by kernel_rfl
theorem es_45 : eszA Try.prog 45 = some 1 := by kernel_rfl
theorem u_46 : Try.prog.underlying 46 = some (TypeDesc.tuple #[9, 4, 4, 27]) := by kernel_rfl
theorem ag_46 : isAggA Try.prog 46 = some false := by kernel_rfl
theorem sz_46 : sizeA Try.prog 46 = some 1 := by kernel_rfl
theorem by_46 : bytesA Try.prog 46 = some 0 := by kernel_rfl
theorem ze_46 : zeroA Try.prog 46 = some [Value.tuple #[Value.string ⟨#[]⟩, Value.bool false, Value.bool false, Value.int IntKind.i64 (0)]] := by kernel_rfl
theorem es_46 : eszA Try.prog 46 = some 1 := by kernel_rfl
theorem u_47 : Try.prog.underlying 47 = some (TypeDesc.func #[3] #[9, 4, 4, 27] false) := by kernel_rfl
theorem ag_47 : isAggA Try.prog 47 = some false := by kernel_rfl
theorem sz_47 : sizeA Try.prog 47 = some 1 := by kernel_rfl
theorem by_47 : bytesA Try.prog 47 = some 8 := by kernel_rfl
theorem ze_47 : zeroA Try.prog 47 = some [Value.nilFunc] := by kernel_rfl
theorem es_47 : eszA Try.prog 47 = some 1 := by kernel_rfl
theorem u_48 : Try.prog.underlying 48 = some (TypeDesc.func #[9, 9, 23] #[4] false) := by kernel_rfl
theorem ag_48 : isAggA Try.prog 48 = some false := by kernel_rfl
theorem sz_48 : sizeA Try.prog 48 = some 1 := by kernel_rfl
theorem by_48 : bytesA Try.prog 48 = some 8 := by kernel_rfl
theorem ze_48 : zeroA Try.prog 48 = some [Value.nilFunc] := by kernel_rfl
theorem es_48 : eszA Try.prog 48 = some 1 := by kernel_rfl
theorem u_49 : Try.prog.underlying 49 = some (TypeDesc.func #[9, 3] #[9] false) := by kernel_rfl
theorem ag_49 : isAggA Try.prog 49 = some false := by kernel_rfl
theorem sz_49 : sizeA Try.prog 49 = some 1 := by kernel_rfl
theorem by_49 : bytesA Try.prog 49 = some 8 := by kernel_rfl
theorem ze_49 : zeroA Try.prog 49 = some [Value.nilFunc] := by kernel_rfl
theorem es_49 : eszA Try.prog 49 = some 1 := by kernel_rfl
theorem u_50 : Try.prog.underlying 50 = some (TypeDesc.tuple #[9, 27]) := by kernel_rfl
theorem ag_50 : isAggA Try.prog 50 = some false := by kernel_rfl
theorem sz_50 : sizeA Try.prog 50 = some 1 := by kernel_rfl
theorem by_50 : bytesA Try.prog 50 = some 0 := by kernel_rfl
theorem ze_50 : zeroA Try.prog 50 = some [Value.tuple #[Value.string ⟨#[]⟩, Value.int IntKind.i64 (0)]] := by kernel_rfl
theorem es_50 : eszA Try.prog 50 = some 1 := by kernel_rfl
theorem u_51 : Try.prog.underlying 51 = some (TypeDesc.func #[3, 3] #[9, 27] false) := by kernel_rfl
theorem ag_51 : isAggA Try.prog 51 = some false := by kernel_rfl
theorem sz_51 : sizeA Try.prog 51 = some 1 := by kernel_rfl
theorem by_51 : bytesA Try.prog 51 = some 8 := by kernel_rfl
theorem ze_51 : zeroA Try.prog 51 = some [Value.nilFunc] := by kernel_rfl
theorem es_51 : eszA Try.prog 51 = some 1 := by kernel_rfl
theorem u_52 : Try.prog.underlying 52 = some (TypeDesc.func #[3, 9, 23] #[4] false) := by kernel_rfl
theorem ag_52 : isAggA Try.prog 52 = some false := by kernel_rfl
theorem sz_52 : sizeA Try.prog 52 = some 1 := by kernel_rfl
theorem by_52 : bytesA Try.prog 52 = some 8 := by kernel_rfl
theorem ze_52 : zeroA Try.prog 52 = some [Value.nilFunc] := by kernel_rfl
theorem es_52 : eszA Try.prog 52 = some 1 := by kernel_rfl
theorem u_53 : Try.prog.underlying 53 = some (TypeDesc.slice 57) := by kernel_rfl
theorem ag_53 : isAggA Try.prog 53 = some false := by kernel_rfl
theorem sz_53 : sizeA Try.prog 53 = some 1 := by kernel_rfl
theorem by_53 : bytesA Try.prog 53 = some 24 := by kernel_rfl
theorem ze_53 : zeroA Try.prog 53 = some [Value.slice none 0 0] := by kernel_rfl
theorem es_53 : eszA Try.prog 53 = some 1 := by kernel_rfl
theorem u_54 : Try.prog.underlying 54 = some (TypeDesc.struct #[{ name := "first", type := 4, offset := 0, embedded := false, tag := "", pkgPath := "patchbay/mux", byteOffset := 0 }, { name := "window", type := 3, offset := 1, embedded := false, tag := "", pkgPath := "patchbay/mux", byteOffset := 8 }, { name := "nextID", type := 3, offset := 2, embedded := false, tag := "", pkgPath := "patchbay/mux", byteOffset := 16 }, { name := "streams", type := 53, offset := 3, embedded := false, tag := "", pkgPath := "patchbay/mux", byteOffset := 24 }, { name := "control", type := 9, offset := 4, embedded := false, tag := "", pkgPath := "patchbay/mux", byteOffset := 48 }, { name := "ready", type := 9, offset := 5, embedded := false, tag := "", pkgPath := "patchbay/mux", byteOffset := 64 }, { name := "turn", type := 3, offset := 6, embedded := false, tag := "", pkgPath := "patchbay/mux", byteOffset := 80 }, { name := "got", type := 9, offset := 7, embedded := false, tag := "", pkgPath := "patchbay/mux", byteOffset := 88 }, { name := "broken", type := 4, offset := 8, embedded := false, tag := "", pkgPath := "patchbay/mux", byteOffset := 104 }]) := by kernel_rfl
theorem f_54_0 : fieldA Try.prog 54 0 = some (0, 4) := by kernel_rfl
theorem f_54_1 : fieldA Try.prog 54 1 = some (1, 3) := by kernel_rfl
theorem f_54_2 : fieldA Try.prog 54 2 = some (2, 3) := by kernel_rfl
theorem f_54_3 : fieldA Try.prog 54 3 = some (3, 53) := by kernel_rfl
theorem f_54_4 : fieldA Try.prog 54 4 = some (4, 9) := by kernel_rfl
theorem f_54_5 : fieldA Try.prog 54 5 = some (5, 9) := by kernel_rfl
theorem f_54_6 : fieldA Try.prog 54 6 = some (6, 3) := by kernel_rfl
theorem f_54_7 : fieldA Try.prog 54 7 = some (7, 9) := by kernel_rfl
theorem f_54_8 : fieldA Try.prog 54 8 = some (8, 4) := by kernel_rfl
theorem ag_54 : isAggA Try.prog 54 = some true := by kernel_rfl
theorem sz_54 : sizeA Try.prog 54 = some 9 := by kernel_rfl
theorem by_54 : bytesA Try.prog 54 = some 112 := by kernel_rfl
theorem ze_54 : zeroA Try.prog 54 = some [Value.bool false, Value.int IntKind.i64 (0), Value.int IntKind.i64 (0), Value.slice none 0 0, Value.string ⟨#[]⟩, Value.string ⟨#[]⟩, Value.int IntKind.i64 (0), Value.string ⟨#[]⟩, Value.bool false] := by kernel_rfl
theorem pl_54 : placesA Try.prog 54 = some [(0, 1), (1, 1), (2, 1), (3, 1), (4, 1), (5, 1), (6, 1), (7, 1), (8, 1)] := by kernel_rfl
theorem es_54 : eszA Try.prog 54 = some 9 := by kernel_rfl
theorem u_55 : Try.prog.underlying 55 = some (TypeDesc.struct #[{ name := "first", type := 4, offset := 0, embedded := false, tag := "", pkgPath := "patchbay/mux", byteOffset := 0 }, { name := "window", type := 3, offset := 1, embedded := false, tag := "", pkgPath := "patchbay/mux", byteOffset := 8 }, { name := "nextID", type := 3, offset := 2, embedded := false, tag := "", pkgPath := "patchbay/mux", byteOffset := 16 }, { name := "streams", type := 53, offset := 3, embedded := false, tag := "", pkgPath := "patchbay/mux", byteOffset := 24 }, { name := "control", type := 9, offset := 4, embedded := false, tag := "", pkgPath := "patchbay/mux", byteOffset := 48 }, { name := "ready", type := 9, offset := 5, embedded := false, tag := "", pkgPath := "patchbay/mux", byteOffset := 64 }, { name := "turn", type := 3, offset := 6, embedded := false, tag := "", pkgPath := "patchbay/mux", byteOffset := 80 }, { name := "got", type := 9, offset := 7, embedded := false, tag := "", pkgPath := "patchbay/mux", byteOffset := 88 }, { name := "broken", type := 4, offset := 8, embedded := false, tag := "", pkgPath := "patchbay/mux", byteOffset := 104 }]) := by kernel_rfl
theorem f_55_0 : fieldA Try.prog 55 0 = some (0, 4) := by kernel_rfl
theorem f_55_1 : fieldA Try.prog 55 1 = some (1, 3) := by kernel_rfl
theorem f_55_2 : fieldA Try.prog 55 2 = some (2, 3) := by kernel_rfl
theorem f_55_3 : fieldA Try.prog 55 3 = some (3, 53) := by kernel_rfl
theorem f_55_4 : fieldA Try.prog 55 4 = some (4, 9) := by kernel_rfl
theorem f_55_5 : fieldA Try.prog 55 5 = some (5, 9) := by kernel_rfl
theorem f_55_6 : fieldA Try.prog 55 6 = some (6, 3) := by kernel_rfl
theorem f_55_7 : fieldA Try.prog 55 7 = some (7, 9) := by kernel_rfl
theorem f_55_8 : fieldA Try.prog 55 8 = some (8, 4) := by kernel_rfl
theorem ag_55 : isAggA Try.prog 55 = some true := by kernel_rfl
theorem sz_55 : sizeA Try.prog 55 = some 9 := by kernel_rfl
theorem by_55 : bytesA Try.prog 55 = some 112 := by kernel_rfl
theorem ze_55 : zeroA Try.prog 55 = some [Value.bool false, Value.int IntKind.i64 (0), Value.int IntKind.i64 (0), Value.slice none 0 0, Value.string ⟨#[]⟩, Value.string ⟨#[]⟩, Value.int IntKind.i64 (0), Value.string ⟨#[]⟩, Value.bool false] := by kernel_rfl
theorem pl_55 : placesA Try.prog 55 = some [(0, 1), (1, 1), (2, 1), (3, 1), (4, 1), (5, 1), (6, 1), (7, 1), (8, 1)] := by kernel_rfl
theorem es_55 : eszA Try.prog 55 = some 9 := by kernel_rfl
theorem u_56 : Try.prog.underlying 56 = some (TypeDesc.func #[4] #[3] false) := by kernel_rfl
theorem ag_56 : isAggA Try.prog 56 = some false := by kernel_rfl
theorem sz_56 : sizeA Try.prog 56 = some 1 := by kernel_rfl
theorem by_56 : bytesA Try.prog 56 = some 8 := by kernel_rfl
theorem ze_56 : zeroA Try.prog 56 = some [Value.nilFunc] := by kernel_rfl
theorem es_56 : eszA Try.prog 56 = some 1 := by kernel_rfl
theorem u_57 : Try.prog.underlying 57 = some (TypeDesc.pointer 63) := by kernel_rfl
theorem ag_57 : isAggA Try.prog 57 = some false := by kernel_rfl
theorem sz_57 : sizeA Try.prog 57 = some 1 := by kernel_rfl
theorem by_57 : bytesA Try.prog 57 = some 8 := by kernel_rfl
theorem ze_57 : zeroA Try.prog 57 = some [Value.pointer none] := by kernel_rfl
theorem es_57 : eszA Try.prog 57 = some 1 := by kernel_rfl
theorem u_58 : Try.prog.underlying 58 = some (TypeDesc.func #[3, 9] #[57] false) := by kernel_rfl
theorem ag_58 : isAggA Try.prog 58 = some false := by kernel_rfl
theorem sz_58 : sizeA Try.prog 58 = some 1 := by kernel_rfl
theorem by_58 : bytesA Try.prog 58 = some 8 := by kernel_rfl
theorem ze_58 : zeroA Try.prog 58 = some [Value.nilFunc] := by kernel_rfl
theorem es_58 : eszA Try.prog 58 = some 1 := by kernel_rfl
theorem u_59 : Try.prog.underlying 59 = some (TypeDesc.func #[3, 3, 9] #[9] false) := by kernel_rfl
theorem ag_59 : isAggA Try.prog 59 = some false := by kernel_rfl
theorem sz_59 : sizeA Try.prog 59 = some 1 := by kernel_rfl
theorem by_59 : bytesA Try.prog 59 = some 8 := by kernel_rfl
theorem ze_59 : zeroA Try.prog 59 = some [Value.nilFunc] := by kernel_rfl
theorem es_59 : eszA Try.prog 59 = some 1 := by kernel_rfl
theorem u_60 : Try.prog.underlying 60 = some (TypeDesc.tuple #[57, 27]) := by kernel_rfl
theorem ag_60 : isAggA Try.prog 60 = some false := by kernel_rfl
theorem sz_60 : sizeA Try.prog 60 = some 1 := by kernel_rfl
theorem by_60 : bytesA Try.prog 60 = some 0 := by kernel_rfl
theorem ze_60 : zeroA Try.prog 60 = some [Value.tuple #[Value.pointer none, Value.int IntKind.i64 (0)]] := by kernel_rfl
theorem es_60 : eszA Try.prog 60 = some 1 := by kernel_rfl
theorem u_61 : Try.prog.underlying 61 = some (TypeDesc.func #[3] #[57, 27] false) := by kernel_rfl
theorem ag_61 : isAggA Try.prog 61 = some false := by kernel_rfl
theorem sz_61 : sizeA Try.prog 61 = some 1 := by kernel_rfl
theorem by_61 : bytesA Try.prog 61 = some 8 := by kernel_rfl
theorem ze_61 : zeroA Try.prog 61 = some [Value.nilFunc] := by kernel_rfl
theorem es_61 : eszA Try.prog 61 = some 1 := by kernel_rfl
theorem u_62 : Try.prog.underlying 62 = some (TypeDesc.struct #[{ name := "id", type := 3, offset := 0, embedded := false, tag := "", pkgPath := "patchbay/mux", byteOffset := 0 }, { name := "head", type := 9, offset := 1, embedded := false, tag := "", pkgPath := "patchbay/mux", byteOffset := 8 }, { name := "out", type := 9, offset := 2, embedded := false, tag := "", pkgPath := "patchbay/mux", byteOffset := 24 }, { name := "in", type := 9, offset := 3, embedded := false, tag := "", pkgPath := "patchbay/mux", byteOffset := 40 }, { name := "window", type := 3, offset := 4, embedded := false, tag := "", pkgPath := "patchbay/mux", byteOffset := 56 }, { name := "room", type := 3, offset := 5, embedded := false, tag := "", pkgPath := "patchbay/mux", byteOffset := 64 }, { name := "taken", type := 3, offset := 6, embedded := false, tag := "", pkgPath := "patchbay/mux", byteOffset := 72 }, { name := "ends", type := 4, offset := 7, embedded := false, tag := "", pkgPath := "patchbay/mux", byteOffset := 80 }, { name := "ended", type := 4, offset := 8, embedded := false, tag := "", pkgPath := "patchbay/mux", byteOffset := 81 }, { name := "over", type := 4, offset := 9, embedded := false, tag := "", pkgPath := "patchbay/mux", byteOffset := 82 }, { name := "reset", type := 4, offset := 10, embedded := false, tag := "", pkgPath := "patchbay/mux", byteOffset := 83 }]) := by kernel_rfl
theorem f_62_0 : fieldA Try.prog 62 0 = some (0, 3) := by kernel_rfl
theorem f_62_1 : fieldA Try.prog 62 1 = some (1, 9) := by kernel_rfl
theorem f_62_2 : fieldA Try.prog 62 2 = some (2, 9) := by kernel_rfl
theorem f_62_3 : fieldA Try.prog 62 3 = some (3, 9) := by kernel_rfl
theorem f_62_4 : fieldA Try.prog 62 4 = some (4, 3) := by kernel_rfl
theorem f_62_5 : fieldA Try.prog 62 5 = some (5, 3) := by kernel_rfl
theorem f_62_6 : fieldA Try.prog 62 6 = some (6, 3) := by kernel_rfl
theorem f_62_7 : fieldA Try.prog 62 7 = some (7, 4) := by kernel_rfl
theorem f_62_8 : fieldA Try.prog 62 8 = some (8, 4) := by kernel_rfl
theorem f_62_9 : fieldA Try.prog 62 9 = some (9, 4) := by kernel_rfl
theorem f_62_10 : fieldA Try.prog 62 10 = some (10, 4) := by kernel_rfl
theorem ag_62 : isAggA Try.prog 62 = some true := by kernel_rfl
theorem sz_62 : sizeA Try.prog 62 = some 11 := by kernel_rfl
theorem by_62 : bytesA Try.prog 62 = some 88 := by kernel_rfl
theorem ze_62 : zeroA Try.prog 62 = some [Value.int IntKind.i64 (0), Value.string ⟨#[]⟩, Value.string ⟨#[]⟩, Value.string ⟨#[]⟩, Value.int IntKind.i64 (0), Value.int IntKind.i64 (0), Value.int IntKind.i64 (0), Value.bool false, Value.bool false, Value.bool false, Value.bool false] := by kernel_rfl
theorem pl_62 : placesA Try.prog 62 = some [(0, 1), (1, 1), (2, 1), (3, 1), (4, 1), (5, 1), (6, 1), (7, 1), (8, 1), (9, 1), (10, 1)] := by kernel_rfl
theorem es_62 : eszA Try.prog 62 = some 11 := by kernel_rfl
theorem u_63 : Try.prog.underlying 63 = some (TypeDesc.struct #[{ name := "id", type := 3, offset := 0, embedded := false, tag := "", pkgPath := "patchbay/mux", byteOffset := 0 }, { name := "head", type := 9, offset := 1, embedded := false, tag := "", pkgPath := "patchbay/mux", byteOffset := 8 }, { name := "out", type := 9, offset := 2, embedded := false, tag := "", pkgPath := "patchbay/mux", byteOffset := 24 }, { name := "in", type := 9, offset := 3, embedded := false, tag := "", pkgPath := "patchbay/mux", byteOffset := 40 }, { name := "window", type := 3, offset := 4, embedded := false, tag := "", pkgPath := "patchbay/mux", byteOffset := 56 }, { name := "room", type := 3, offset := 5, embedded := false, tag := "", pkgPath := "patchbay/mux", byteOffset := 64 }, { name := "taken", type := 3, offset := 6, embedded := false, tag := "", pkgPath := "patchbay/mux", byteOffset := 72 }, { name := "ends", type := 4, offset := 7, embedded := false, tag := "", pkgPath := "patchbay/mux", byteOffset := 80 }, { name := "ended", type := 4, offset := 8, embedded := false, tag := "", pkgPath := "patchbay/mux", byteOffset := 81 }, { name := "over", type := 4, offset := 9, embedded := false, tag := "", pkgPath := "patchbay/mux", byteOffset := 82 }, { name := "reset", type := 4, offset := 10, embedded := false, tag := "", pkgPath := "patchbay/mux", byteOffset := 83 }]) := by kernel_rfl
theorem f_63_0 : fieldA Try.prog 63 0 = some (0, 3) := by kernel_rfl
theorem f_63_1 : fieldA Try.prog 63 1 = some (1, 9) := by kernel_rfl
theorem f_63_2 : fieldA Try.prog 63 2 = some (2, 9) := by kernel_rfl
theorem f_63_3 : fieldA Try.prog 63 3 = some (3, 9) := by kernel_rfl
theorem f_63_4 : fieldA Try.prog 63 4 = some (4, 3) := by kernel_rfl
theorem f_63_5 : fieldA Try.prog 63 5 = some (5, 3) := by kernel_rfl
theorem f_63_6 : fieldA Try.prog 63 6 = some (6, 3) := by kernel_rfl
theorem f_63_7 : fieldA Try.prog 63 7 = some (7, 4) := by kernel_rfl
theorem f_63_8 : fieldA Try.prog 63 8 = some (8, 4) := by kernel_rfl
theorem f_63_9 : fieldA Try.prog 63 9 = some (9, 4) := by kernel_rfl
theorem f_63_10 : fieldA Try.prog 63 10 = some (10, 4) := by kernel_rfl
theorem ag_63 : isAggA Try.prog 63 = some true := by kernel_rfl
theorem sz_63 : sizeA Try.prog 63 = some 11 := by kernel_rfl
theorem by_63 : bytesA Try.prog 63 = some 88 := by kernel_rfl
theorem ze_63 : zeroA Try.prog 63 = some [Value.int IntKind.i64 (0), Value.string ⟨#[]⟩, Value.string ⟨#[]⟩, Value.string ⟨#[]⟩, Value.int IntKind.i64 (0), Value.int IntKind.i64 (0), Value.int IntKind.i64 (0), Value.bool false, Value.bool false, Value.bool false, Value.bool false] := by kernel_rfl
theorem pl_63 : placesA Try.prog 63 = some [(0, 1), (1, 1), (2, 1), (3, 1), (4, 1), (5, 1), (6, 1), (7, 1), (8, 1), (9, 1), (10, 1)] := by kernel_rfl
theorem es_63 : eszA Try.prog 63 = some 11 := by kernel_rfl
theorem u_64 : Try.prog.underlying 64 = some (TypeDesc.int IntKind.u64) := by kernel_rfl
theorem ag_64 : isAggA Try.prog 64 = some false := by kernel_rfl
theorem sz_64 : sizeA Try.prog 64 = some 1 := by kernel_rfl
theorem by_64 : bytesA Try.prog 64 = some 8 := by kernel_rfl
theorem ze_64 : zeroA Try.prog 64 = some [Value.int IntKind.u64 (0)] := by kernel_rfl
theorem es_64 : eszA Try.prog 64 = some 1 := by kernel_rfl
theorem u_65 : Try.prog.underlying 65 = some (TypeDesc.func #[3, 3, 9] #[27] false) := by kernel_rfl
theorem ag_65 : isAggA Try.prog 65 = some false := by kernel_rfl
theorem sz_65 : sizeA Try.prog 65 = some 1 := by kernel_rfl
theorem by_65 : bytesA Try.prog 65 = some 8 := by kernel_rfl
theorem ze_65 : zeroA Try.prog 65 = some [Value.nilFunc] := by kernel_rfl
theorem es_65 : eszA Try.prog 65 = some 1 := by kernel_rfl
theorem u_66 : Try.prog.underlying 66 = some (TypeDesc.func #[26, 22] #[22] false) := by kernel_rfl
theorem ag_66 : isAggA Try.prog 66 = some false := by kernel_rfl
theorem sz_66 : sizeA Try.prog 66 = some 1 := by kernel_rfl
theorem by_66 : bytesA Try.prog 66 = some 8 := by kernel_rfl
theorem ze_66 : zeroA Try.prog 66 = some [Value.nilFunc] := by kernel_rfl
theorem es_66 : eszA Try.prog 66 = some 1 := by kernel_rfl
theorem u_67 : Try.prog.underlying 67 = some (TypeDesc.func #[3] #[57] false) := by kernel_rfl
theorem ag_67 : isAggA Try.prog 67 = some false := by kernel_rfl
theorem sz_67 : sizeA Try.prog 67 = some 1 := by kernel_rfl
theorem by_67 : bytesA Try.prog 67 = some 8 := by kernel_rfl
theorem ze_67 : zeroA Try.prog 67 = some [Value.nilFunc] := by kernel_rfl
theorem es_67 : eszA Try.prog 67 = some 1 := by kernel_rfl
theorem u_68 : Try.prog.underlying 68 = some (TypeDesc.tuple #[64, 64]) := by kernel_rfl
theorem ag_68 : isAggA Try.prog 68 = some false := by kernel_rfl
theorem sz_68 : sizeA Try.prog 68 = some 1 := by kernel_rfl
theorem by_68 : bytesA Try.prog 68 = some 0 := by kernel_rfl
theorem ze_68 : zeroA Try.prog 68 = some [Value.tuple #[Value.int IntKind.u64 (0), Value.int IntKind.u64 (0)]] := by kernel_rfl
theorem es_68 : eszA Try.prog 68 = some 1 := by kernel_rfl
theorem u_69 : Try.prog.underlying 69 = some (TypeDesc.func #[64, 64] #[64, 64] false) := by kernel_rfl
theorem ag_69 : isAggA Try.prog 69 = some false := by kernel_rfl
theorem sz_69 : sizeA Try.prog 69 = some 1 := by kernel_rfl
theorem by_69 : bytesA Try.prog 69 = some 8 := by kernel_rfl
theorem ze_69 : zeroA Try.prog 69 = some [Value.nilFunc] := by kernel_rfl
theorem es_69 : eszA Try.prog 69 = some 1 := by kernel_rfl
theorem u_70 : Try.prog.underlying 70 = some (TypeDesc.func #[9, 9] #[4] false) := by kernel_rfl
theorem ag_70 : isAggA Try.prog 70 = some false := by kernel_rfl
theorem sz_70 : sizeA Try.prog 70 = some 1 := by kernel_rfl
theorem by_70 : bytesA Try.prog 70 = some 8 := by kernel_rfl
theorem ze_70 : zeroA Try.prog 70 = some [Value.nilFunc] := by kernel_rfl
theorem es_70 : eszA Try.prog 70 = some 1 := by kernel_rfl
theorem u_71 : Try.prog.underlying 71 = some (TypeDesc.pointer 73) := by kernel_rfl
theorem ag_71 : isAggA Try.prog 71 = some false := by kernel_rfl
theorem sz_71 : sizeA Try.prog 71 = some 1 := by kernel_rfl
theorem by_71 : bytesA Try.prog 71 = some 8 := by kernel_rfl
theorem ze_71 : zeroA Try.prog 71 = some [Value.pointer none] := by kernel_rfl
theorem es_71 : eszA Try.prog 71 = some 1 := by kernel_rfl
theorem u_72 : Try.prog.underlying 72 = some (TypeDesc.struct #[{ name := "addr", type := 71, offset := 0, embedded := false, tag := "", pkgPath := "strings", byteOffset := 0 }, { name := "buf", type := 40, offset := 1, embedded := false, tag := "", pkgPath := "strings", byteOffset := 8 }]) := by kernel_rfl
theorem f_72_0 : fieldA Try.prog 72 0 = some (0, 71) := by kernel_rfl
theorem f_72_1 : fieldA Try.prog 72 1 = some (1, 40) := by kernel_rfl
theorem ag_72 : isAggA Try.prog 72 = some true := by kernel_rfl
theorem sz_72 : sizeA Try.prog 72 = some 2 := by kernel_rfl
theorem by_72 : bytesA Try.prog 72 = some 32 := by kernel_rfl
theorem ze_72 : zeroA Try.prog 72 = some [Value.pointer none, Value.slice none 0 0] := by kernel_rfl
theorem pl_72 : placesA Try.prog 72 = some [(0, 1), (1, 1)] := by kernel_rfl
theorem es_72 : eszA Try.prog 72 = some 2 := by kernel_rfl
theorem u_73 : Try.prog.underlying 73 = some (TypeDesc.struct #[{ name := "addr", type := 71, offset := 0, embedded := false, tag := "", pkgPath := "strings", byteOffset := 0 }, { name := "buf", type := 40, offset := 1, embedded := false, tag := "", pkgPath := "strings", byteOffset := 8 }]) := by kernel_rfl
theorem f_73_0 : fieldA Try.prog 73 0 = some (0, 71) := by kernel_rfl
theorem f_73_1 : fieldA Try.prog 73 1 = some (1, 40) := by kernel_rfl
theorem ag_73 : isAggA Try.prog 73 = some true := by kernel_rfl
theorem sz_73 : sizeA Try.prog 73 = some 2 := by kernel_rfl
theorem by_73 : bytesA Try.prog 73 = some 32 := by kernel_rfl
theorem ze_73 : zeroA Try.prog 73 = some [Value.pointer none, Value.slice none 0 0] := by kernel_rfl
theorem pl_73 : placesA Try.prog 73 = some [(0, 1), (1, 1)] := by kernel_rfl
theorem es_73 : eszA Try.prog 73 = some 2 := by kernel_rfl
theorem u_74 : Try.prog.underlying 74 = some (TypeDesc.func #[3] #[] false) := by kernel_rfl
theorem ag_74 : isAggA Try.prog 74 = some false := by kernel_rfl
theorem sz_74 : sizeA Try.prog 74 = some 1 := by kernel_rfl
theorem by_74 : bytesA Try.prog 74 = some 8 := by kernel_rfl
theorem ze_74 : zeroA Try.prog 74 = some [Value.nilFunc] := by kernel_rfl
theorem es_74 : eszA Try.prog 74 = some 1 := by kernel_rfl
theorem u_75 : Try.prog.underlying 75 = some (TypeDesc.interface #[("Error", 80)]) := by kernel_rfl
theorem ag_75 : isAggA Try.prog 75 = some false := by kernel_rfl
theorem sz_75 : sizeA Try.prog 75 = some 1 := by kernel_rfl
theorem by_75 : bytesA Try.prog 75 = some 16 := by kernel_rfl
theorem ze_75 : zeroA Try.prog 75 = some [Value.nilIface] := by kernel_rfl
theorem es_75 : eszA Try.prog 75 = some 1 := by kernel_rfl
theorem u_76 : Try.prog.underlying 76 = some (TypeDesc.interface #[("Error", 80)]) := by kernel_rfl
theorem ag_76 : isAggA Try.prog 76 = some false := by kernel_rfl
theorem sz_76 : sizeA Try.prog 76 = some 1 := by kernel_rfl
theorem by_76 : bytesA Try.prog 76 = some 16 := by kernel_rfl
theorem ze_76 : zeroA Try.prog 76 = some [Value.nilIface] := by kernel_rfl
theorem es_76 : eszA Try.prog 76 = some 1 := by kernel_rfl
theorem u_77 : Try.prog.underlying 77 = some (TypeDesc.tuple #[3, 76]) := by kernel_rfl
theorem ag_77 : isAggA Try.prog 77 = some false := by kernel_rfl
theorem sz_77 : sizeA Try.prog 77 = some 1 := by kernel_rfl
theorem by_77 : bytesA Try.prog 77 = some 0 := by kernel_rfl
theorem ze_77 : zeroA Try.prog 77 = some [Value.tuple #[Value.int IntKind.i64 (0), Value.nilIface]] := by kernel_rfl
theorem es_77 : eszA Try.prog 77 = some 1 := by kernel_rfl
theorem u_78 : Try.prog.underlying 78 = some (TypeDesc.func #[9] #[3, 76] false) := by kernel_rfl
theorem ag_78 : isAggA Try.prog 78 = some false := by kernel_rfl
theorem sz_78 : sizeA Try.prog 78 = some 1 := by kernel_rfl
theorem by_78 : bytesA Try.prog 78 = some 8 := by kernel_rfl
theorem ze_78 : zeroA Try.prog 78 = some [Value.nilFunc] := by kernel_rfl
theorem es_78 : eszA Try.prog 78 = some 1 := by kernel_rfl
theorem u_79 : Try.prog.underlying 79 = some (TypeDesc.func #[] #[3] false) := by kernel_rfl
theorem ag_79 : isAggA Try.prog 79 = some false := by kernel_rfl
theorem sz_79 : sizeA Try.prog 79 = some 1 := by kernel_rfl
theorem by_79 : bytesA Try.prog 79 = some 8 := by kernel_rfl
theorem ze_79 : zeroA Try.prog 79 = some [Value.nilFunc] := by kernel_rfl
theorem es_79 : eszA Try.prog 79 = some 1 := by kernel_rfl
theorem u_80 : Try.prog.underlying 80 = some (TypeDesc.func #[] #[9] false) := by kernel_rfl
theorem ag_80 : isAggA Try.prog 80 = some false := by kernel_rfl
theorem sz_80 : sizeA Try.prog 80 = some 1 := by kernel_rfl
theorem by_80 : bytesA Try.prog 80 = some 8 := by kernel_rfl
theorem ze_80 : zeroA Try.prog 80 = some [Value.nilFunc] := by kernel_rfl
theorem es_80 : eszA Try.prog 80 = some 1 := by kernel_rfl
theorem u_81 : Try.prog.underlying 81 = some (TypeDesc.func #[3] #[4] false) := by kernel_rfl
theorem ag_81 : isAggA Try.prog 81 = some false := by kernel_rfl
theorem sz_81 : sizeA Try.prog 81 = some 1 := by kernel_rfl
theorem by_81 : bytesA Try.prog 81 = some 8 := by kernel_rfl
theorem ze_81 : zeroA Try.prog 81 = some [Value.nilFunc] := by kernel_rfl
theorem es_81 : eszA Try.prog 81 = some 1 := by kernel_rfl
theorem u_82 : Try.prog.underlying 82 = some (TypeDesc.func #[53, 83] #[3] false) := by kernel_rfl
theorem ag_82 : isAggA Try.prog 82 = some false := by kernel_rfl
theorem sz_82 : sizeA Try.prog 82 = some 1 := by kernel_rfl
theorem by_82 : bytesA Try.prog 82 = some 8 := by kernel_rfl
theorem ze_82 : zeroA Try.prog 82 = some [Value.nilFunc] := by kernel_rfl
theorem es_82 : eszA Try.prog 82 = some 1 := by kernel_rfl
theorem u_83 : Try.prog.underlying 83 = some (TypeDesc.func #[57] #[4] false) := by kernel_rfl
theorem ag_83 : isAggA Try.prog 83 = some false := by kernel_rfl
theorem sz_83 : sizeA Try.prog 83 = some 1 := by kernel_rfl
theorem by_83 : bytesA Try.prog 83 = some 8 := by kernel_rfl
theorem ze_83 : zeroA Try.prog 83 = some [Value.nilFunc] := by kernel_rfl
theorem es_83 : eszA Try.prog 83 = some 1 := by kernel_rfl
theorem u_84 : Try.prog.underlying 84 = some (TypeDesc.func #[53, 3, 53] #[53] true) := by kernel_rfl
theorem ag_84 : isAggA Try.prog 84 = some false := by kernel_rfl
theorem sz_84 : sizeA Try.prog 84 = some 1 := by kernel_rfl
theorem by_84 : bytesA Try.prog 84 = some 8 := by kernel_rfl
theorem ze_84 : zeroA Try.prog 84 = some [Value.nilFunc] := by kernel_rfl
theorem es_84 : eszA Try.prog 84 = some 1 := by kernel_rfl
theorem u_85 : Try.prog.underlying 85 = some (TypeDesc.func #[57] #[9] false) := by kernel_rfl
theorem ag_85 : isAggA Try.prog 85 = some false := by kernel_rfl
theorem sz_85 : sizeA Try.prog 85 = some 1 := by kernel_rfl
theorem by_85 : bytesA Try.prog 85 = some 8 := by kernel_rfl
theorem ze_85 : zeroA Try.prog 85 = some [Value.nilFunc] := by kernel_rfl
theorem es_85 : eszA Try.prog 85 = some 1 := by kernel_rfl
theorem u_86 : Try.prog.underlying 86 = some (TypeDesc.func #[3, 9] #[27] false) := by kernel_rfl
theorem ag_86 : isAggA Try.prog 86 = some false := by kernel_rfl
theorem sz_86 : sizeA Try.prog 86 = some 1 := by kernel_rfl
theorem by_86 : bytesA Try.prog 86 = some 8 := by kernel_rfl
theorem ze_86 : zeroA Try.prog 86 = some [Value.nilFunc] := by kernel_rfl
theorem es_86 : eszA Try.prog 86 = some 1 := by kernel_rfl
theorem u_87 : Try.prog.underlying 87 = some (TypeDesc.int IntKind.u32) := by kernel_rfl
theorem ag_87 : isAggA Try.prog 87 = some false := by kernel_rfl
theorem sz_87 : sizeA Try.prog 87 = some 1 := by kernel_rfl
theorem by_87 : bytesA Try.prog 87 = some 4 := by kernel_rfl
theorem ze_87 : zeroA Try.prog 87 = some [Value.int IntKind.u32 (0)] := by kernel_rfl
theorem es_87 : eszA Try.prog 87 = some 1 := by kernel_rfl
theorem u_88 : Try.prog.underlying 88 = some (TypeDesc.tuple #[87, 87]) := by kernel_rfl
theorem ag_88 : isAggA Try.prog 88 = some false := by kernel_rfl
theorem sz_88 : sizeA Try.prog 88 = some 1 := by kernel_rfl
theorem by_88 : bytesA Try.prog 88 = some 0 := by kernel_rfl
theorem ze_88 : zeroA Try.prog 88 = some [Value.tuple #[Value.int IntKind.u32 (0), Value.int IntKind.u32 (0)]] := by kernel_rfl
theorem es_88 : eszA Try.prog 88 = some 1 := by kernel_rfl
theorem u_89 : Try.prog.underlying 89 = some (TypeDesc.func #[87, 87] #[87, 87] false) := by kernel_rfl
theorem ag_89 : isAggA Try.prog 89 = some false := by kernel_rfl
theorem sz_89 : sizeA Try.prog 89 = some 1 := by kernel_rfl
theorem by_89 : bytesA Try.prog 89 = some 8 := by kernel_rfl
theorem ze_89 : zeroA Try.prog 89 = some [Value.nilFunc] := by kernel_rfl
theorem es_89 : eszA Try.prog 89 = some 1 := by kernel_rfl
theorem u_90 : Try.prog.underlying 90 = some (TypeDesc.int IntKind.u64) := by kernel_rfl
theorem ag_90 : isAggA Try.prog 90 = some false := by kernel_rfl
theorem sz_90 : sizeA Try.prog 90 = some 1 := by kernel_rfl
theorem by_90 : bytesA Try.prog 90 = some 8 := by kernel_rfl
theorem ze_90 : zeroA Try.prog 90 = some [Value.int IntKind.u64 (0)] := by kernel_rfl
theorem es_90 : eszA Try.prog 90 = some 1 := by kernel_rfl
theorem u_91 : Try.prog.underlying 91 = some (TypeDesc.tuple #[90, 90]) := by kernel_rfl
theorem ag_91 : isAggA Try.prog 91 = some false := by kernel_rfl
theorem sz_91 : sizeA Try.prog 91 = some 1 := by kernel_rfl
theorem by_91 : bytesA Try.prog 91 = some 0 := by kernel_rfl
theorem ze_91 : zeroA Try.prog 91 = some [Value.tuple #[Value.int IntKind.u64 (0), Value.int IntKind.u64 (0)]] := by kernel_rfl
theorem es_91 : eszA Try.prog 91 = some 1 := by kernel_rfl
theorem u_92 : Try.prog.underlying 92 = some (TypeDesc.func #[90, 90] #[90, 90] false) := by kernel_rfl
theorem ag_92 : isAggA Try.prog 92 = some false := by kernel_rfl
theorem sz_92 : sizeA Try.prog 92 = some 1 := by kernel_rfl
theorem by_92 : bytesA Try.prog 92 = some 8 := by kernel_rfl
theorem ze_92 : zeroA Try.prog 92 = some [Value.nilFunc] := by kernel_rfl
theorem es_92 : eszA Try.prog 92 = some 1 := by kernel_rfl
theorem u_93 : Try.prog.underlying 93 = some (TypeDesc.pointer 5) := by kernel_rfl
theorem ag_93 : isAggA Try.prog 93 = some false := by kernel_rfl
theorem sz_93 : sizeA Try.prog 93 = some 1 := by kernel_rfl
theorem by_93 : bytesA Try.prog 93 = some 8 := by kernel_rfl
theorem ze_93 : zeroA Try.prog 93 = some [Value.pointer none] := by kernel_rfl
theorem es_93 : eszA Try.prog 93 = some 1 := by kernel_rfl
theorem u_94 : Try.prog.underlying 94 = some (TypeDesc.func #[53, 53] #[4] false) := by kernel_rfl
theorem ag_94 : isAggA Try.prog 94 = some false := by kernel_rfl
theorem sz_94 : sizeA Try.prog 94 = some 1 := by kernel_rfl
theorem by_94 : bytesA Try.prog 94 = some 8 := by kernel_rfl
theorem ze_94 : zeroA Try.prog 94 = some [Value.nilFunc] := by kernel_rfl
theorem es_94 : eszA Try.prog 94 = some 1 := by kernel_rfl
theorem u_95 : Try.prog.underlying 95 = some (TypeDesc.func #[53, 3] #[] false) := by kernel_rfl
theorem ag_95 : isAggA Try.prog 95 = some false := by kernel_rfl
theorem sz_95 : sizeA Try.prog 95 = some 1 := by kernel_rfl
theorem by_95 : bytesA Try.prog 95 = some 8 := by kernel_rfl
theorem ze_95 : zeroA Try.prog 95 = some [Value.nilFunc] := by kernel_rfl
theorem es_95 : eszA Try.prog 95 = some 1 := by kernel_rfl
theorem u_96 : Try.prog.underlying 96 = some TypeDesc.unsafePointer := by kernel_rfl
theorem ag_96 : isAggA Try.prog 96 = some false := by kernel_rfl
theorem sz_96 : sizeA Try.prog 96 = some 1 := by kernel_rfl
theorem by_96 : bytesA Try.prog 96 = some 8 := by kernel_rfl
theorem ze_96 : zeroA Try.prog 96 = some [Value.pointer none] := by kernel_rfl
theorem es_96 : eszA Try.prog 96 = some 1 := by kernel_rfl
theorem u_97 : Try.prog.underlying 97 = some (TypeDesc.func #[96] #[96] false) := by kernel_rfl
theorem ag_97 : isAggA Try.prog 97 = some false := by kernel_rfl
theorem sz_97 : sizeA Try.prog 97 = some 1 := by kernel_rfl
theorem by_97 : bytesA Try.prog 97 = some 8 := by kernel_rfl
theorem ze_97 : zeroA Try.prog 97 = some [Value.nilFunc] := by kernel_rfl
theorem es_97 : eszA Try.prog 97 = some 1 := by kernel_rfl
theorem u_98 : Try.prog.underlying 98 = some (TypeDesc.func #[3] #[40] false) := by kernel_rfl
theorem ag_98 : isAggA Try.prog 98 = some false := by kernel_rfl
theorem sz_98 : sizeA Try.prog 98 = some 1 := by kernel_rfl
theorem by_98 : bytesA Try.prog 98 = some 8 := by kernel_rfl
theorem ze_98 : zeroA Try.prog 98 = some [Value.nilFunc] := by kernel_rfl
theorem es_98 : eszA Try.prog 98 = some 1 := by kernel_rfl
theorem u_99 : Try.prog.underlying 99 = some (TypeDesc.func #[53] #[] false) := by kernel_rfl
theorem ag_99 : isAggA Try.prog 99 = some false := by kernel_rfl
theorem sz_99 : sizeA Try.prog 99 = some 1 := by kernel_rfl
theorem by_99 : bytesA Try.prog 99 = some 8 := by kernel_rfl
theorem ze_99 : zeroA Try.prog 99 = some [Value.nilFunc] := by kernel_rfl
theorem es_99 : eszA Try.prog 99 = some 1 := by kernel_rfl
theorem u_100 : Try.prog.underlying 100 = some (TypeDesc.struct #[{ name := "_interface", type := 17, offset := 0, embedded := false, tag := "", pkgPath := "runtime", byteOffset := 0 }, { name := "concrete", type := 17, offset := 1, embedded := false, tag := "", pkgPath := "runtime", byteOffset := 8 }, { name := "asserted", type := 17, offset := 2, embedded := false, tag := "", pkgPath := "runtime", byteOffset := 16 }, { name := "missingMethod", type := 9, offset := 3, embedded := false, tag := "", pkgPath := "runtime", byteOffset := 24 }]) := by kernel_rfl
theorem f_100_0 : fieldA Try.prog 100 0 = some (0, 17) := by kernel_rfl
theorem f_100_1 : fieldA Try.prog 100 1 = some (1, 17) := by kernel_rfl
theorem f_100_2 : fieldA Try.prog 100 2 = some (2, 17) := by kernel_rfl
theorem f_100_3 : fieldA Try.prog 100 3 = some (3, 9) := by kernel_rfl
theorem ag_100 : isAggA Try.prog 100 = some true := by kernel_rfl
theorem sz_100 : sizeA Try.prog 100 = some 4 := by kernel_rfl
theorem by_100 : bytesA Try.prog 100 = some 40 := by kernel_rfl
theorem ze_100 : zeroA Try.prog 100 = some [Value.pointer none, Value.pointer none, Value.pointer none, Value.string ⟨#[]⟩] := by kernel_rfl
theorem pl_100 : placesA Try.prog 100 = some [(0, 1), (1, 1), (2, 1), (3, 1)] := by kernel_rfl
theorem es_100 : eszA Try.prog 100 = some 4 := by kernel_rfl
theorem u_101 : Try.prog.underlying 101 = some (TypeDesc.struct #[{ name := "_interface", type := 17, offset := 0, embedded := false, tag := "", pkgPath := "runtime", byteOffset := 0 }, { name := "concrete", type := 17, offset := 1, embedded := false, tag := "", pkgPath := "runtime", byteOffset := 8 }, { name := "asserted", type := 17, offset := 2, embedded := false, tag := "", pkgPath := "runtime", byteOffset := 16 }, { name := "missingMethod", type := 9, offset := 3, embedded := false, tag := "", pkgPath := "runtime", byteOffset := 24 }]) := by kernel_rfl
theorem f_101_0 : fieldA Try.prog 101 0 = some (0, 17) := by kernel_rfl
theorem f_101_1 : fieldA Try.prog 101 1 = some (1, 17) := by kernel_rfl
theorem f_101_2 : fieldA Try.prog 101 2 = some (2, 17) := by kernel_rfl
theorem f_101_3 : fieldA Try.prog 101 3 = some (3, 9) := by kernel_rfl
theorem ag_101 : isAggA Try.prog 101 = some true := by kernel_rfl
theorem sz_101 : sizeA Try.prog 101 = some 4 := by kernel_rfl
theorem by_101 : bytesA Try.prog 101 = some 40 := by kernel_rfl
theorem ze_101 : zeroA Try.prog 101 = some [Value.pointer none, Value.pointer none, Value.pointer none, Value.string ⟨#[]⟩] := by kernel_rfl
theorem pl_101 : placesA Try.prog 101 = some [(0, 1), (1, 1), (2, 1), (3, 1)] := by kernel_rfl
theorem es_101 : eszA Try.prog 101 = some 4 := by kernel_rfl
theorem u_102 : Try.prog.underlying 102 = some (TypeDesc.array 0 16) := by kernel_rfl
theorem ag_102 : isAggA Try.prog 102 = some true := by kernel_rfl
theorem sz_102 : sizeA Try.prog 102 = some 0 := by kernel_rfl
theorem by_102 : bytesA Try.prog 102 = some 0 := by kernel_rfl
theorem ze_102 : zeroA Try.prog 102 = some [] := by kernel_rfl
theorem es_102 : eszA Try.prog 102 = some 1 := by kernel_rfl
theorem u_103 : Try.prog.underlying 103 = some (TypeDesc.struct #[{ name := "_", type := 102, offset := 0, embedded := false, tag := "", pkgPath := "runtime", byteOffset := 0 }]) := by kernel_rfl
theorem f_103_0 : fieldA Try.prog 103 0 = some (0, 102) := by kernel_rfl
theorem ag_103 : isAggA Try.prog 103 = some true := by kernel_rfl
theorem sz_103 : sizeA Try.prog 103 = some 0 := by kernel_rfl
theorem by_103 : bytesA Try.prog 103 = some 0 := by kernel_rfl
theorem ze_103 : zeroA Try.prog 103 = some [] := by kernel_rfl
theorem pl_103 : placesA Try.prog 103 = some [(0, 0)] := by kernel_rfl
theorem es_103 : eszA Try.prog 103 = some 0 := by kernel_rfl
theorem u_104 : Try.prog.underlying 104 = some (TypeDesc.struct #[{ name := "_", type := 102, offset := 0, embedded := false, tag := "", pkgPath := "runtime", byteOffset := 0 }]) := by kernel_rfl
theorem f_104_0 : fieldA Try.prog 104 0 = some (0, 102) := by kernel_rfl
theorem ag_104 : isAggA Try.prog 104 = some true := by kernel_rfl
theorem sz_104 : sizeA Try.prog 104 = some 0 := by kernel_rfl
theorem by_104 : bytesA Try.prog 104 = some 0 := by kernel_rfl
theorem ze_104 : zeroA Try.prog 104 = some [] := by kernel_rfl
theorem pl_104 : placesA Try.prog 104 = some [(0, 0)] := by kernel_rfl
theorem es_104 : eszA Try.prog 104 = some 0 := by kernel_rfl
theorem u_105 : Try.prog.underlying 105 = some (TypeDesc.int IntKind.u8) := by kernel_rfl
theorem ag_105 : isAggA Try.prog 105 = some false := by kernel_rfl
theorem sz_105 : sizeA Try.prog 105 = some 1 := by kernel_rfl
theorem by_105 : bytesA Try.prog 105 = some 1 := by kernel_rfl
theorem ze_105 : zeroA Try.prog 105 = some [Value.int IntKind.u8 (0)] := by kernel_rfl
theorem u8_105 : isU8 Try.prog 105 = true := by kernel_rfl
theorem es_105 : eszA Try.prog 105 = some 1 := by kernel_rfl
theorem u_106 : Try.prog.underlying 106 = some (TypeDesc.int IntKind.u8) := by kernel_rfl
theorem ag_106 : isAggA Try.prog 106 = some false := by kernel_rfl
theorem sz_106 : sizeA Try.prog 106 = some 1 := by kernel_rfl
theorem by_106 : bytesA Try.prog 106 = some 1 := by kernel_rfl
theorem ze_106 : zeroA Try.prog 106 = some [Value.int IntKind.u8 (0)] := by kernel_rfl
theorem u8_106 : isU8 Try.prog 106 = true := by kernel_rfl
theorem es_106 : eszA Try.prog 106 = some 1 := by kernel_rfl
theorem u_107 : Try.prog.underlying 107 = some (TypeDesc.func #[96, 96] #[4] false) := by kernel_rfl
theorem ag_107 : isAggA Try.prog 107 = some false := by kernel_rfl
theorem sz_107 : sizeA Try.prog 107 = some 1 := by kernel_rfl
theorem by_107 : bytesA Try.prog 107 = some 8 := by kernel_rfl
theorem ze_107 : zeroA Try.prog 107 = some [Value.nilFunc] := by kernel_rfl
theorem es_107 : eszA Try.prog 107 = some 1 := by kernel_rfl
theorem u_108 : Try.prog.underlying 108 = some (TypeDesc.int IntKind.i32) := by kernel_rfl
theorem ag_108 : isAggA Try.prog 108 = some false := by kernel_rfl
theorem sz_108 : sizeA Try.prog 108 = some 1 := by kernel_rfl
theorem by_108 : bytesA Try.prog 108 = some 4 := by kernel_rfl
theorem ze_108 : zeroA Try.prog 108 = some [Value.int IntKind.i32 (0)] := by kernel_rfl
theorem es_108 : eszA Try.prog 108 = some 1 := by kernel_rfl
theorem u_109 : Try.prog.underlying 109 = some (TypeDesc.int IntKind.i32) := by kernel_rfl
theorem ag_109 : isAggA Try.prog 109 = some false := by kernel_rfl
theorem sz_109 : sizeA Try.prog 109 = some 1 := by kernel_rfl
theorem by_109 : bytesA Try.prog 109 = some 4 := by kernel_rfl
theorem ze_109 : zeroA Try.prog 109 = some [Value.int IntKind.i32 (0)] := by kernel_rfl
theorem es_109 : eszA Try.prog 109 = some 1 := by kernel_rfl
theorem u_110 : Try.prog.underlying 110 = some (TypeDesc.struct #[{ name := "Size_", type := 12, offset := 0, embedded := false, tag := "", pkgPath := "", byteOffset := 0 }, { name := "PtrBytes", type := 12, offset := 1, embedded := false, tag := "", pkgPath := "", byteOffset := 8 }, { name := "Hash", type := 87, offset := 2, embedded := false, tag := "", pkgPath := "", byteOffset := 16 }, { name := "TFlag", type := 105, offset := 3, embedded := false, tag := "", pkgPath := "", byteOffset := 20 }, { name := "Align_", type := 5, offset := 4, embedded := false, tag := "", pkgPath := "", byteOffset := 21 }, { name := "FieldAlign_", type := 5, offset := 5, embedded := false, tag := "", pkgPath := "", byteOffset := 22 }, { name := "Kind_", type := 106, offset := 6, embedded := false, tag := "", pkgPath := "", byteOffset := 23 }, { name := "Equal", type := 107, offset := 7, embedded := false, tag := "", pkgPath := "", byteOffset := 24 }, { name := "GCData", type := 93, offset := 8, embedded := false, tag := "", pkgPath := "", byteOffset := 32 }, { name := "Str", type := 108, offset := 9, embedded := false, tag := "", pkgPath := "", byteOffset := 40 }, { name := "PtrToThis", type := 109, offset := 10, embedded := false, tag := "", pkgPath := "", byteOffset := 44 }]) := by kernel_rfl
theorem f_110_0 : fieldA Try.prog 110 0 = some (0, 12) := by kernel_rfl
theorem f_110_1 : fieldA Try.prog 110 1 = some (1, 12) := by kernel_rfl
theorem f_110_2 : fieldA Try.prog 110 2 = some (2, 87) := by kernel_rfl
theorem f_110_3 : fieldA Try.prog 110 3 = some (3, 105) := by kernel_rfl
theorem f_110_4 : fieldA Try.prog 110 4 = some (4, 5) := by kernel_rfl
theorem f_110_5 : fieldA Try.prog 110 5 = some (5, 5) := by kernel_rfl
theorem f_110_6 : fieldA Try.prog 110 6 = some (6, 106) := by kernel_rfl
theorem f_110_7 : fieldA Try.prog 110 7 = some (7, 107) := by kernel_rfl
theorem f_110_8 : fieldA Try.prog 110 8 = some (8, 93) := by kernel_rfl
theorem f_110_9 : fieldA Try.prog 110 9 = some (9, 108) := by kernel_rfl
theorem f_110_10 : fieldA Try.prog 110 10 = some (10, 109) := by kernel_rfl
theorem ag_110 : isAggA Try.prog 110 = some true := by kernel_rfl
theorem sz_110 : sizeA Try.prog 110 = some 11 := by kernel_rfl
theorem by_110 : bytesA Try.prog 110 = some 48 := by kernel_rfl
theorem ze_110 : zeroA Try.prog 110 = some [Value.int IntKind.u64 (0), Value.int IntKind.u64 (0), Value.int IntKind.u32 (0), Value.int IntKind.u8 (0), Value.int IntKind.u8 (0), Value.int IntKind.u8 (0), Value.int IntKind.u8 (0), Value.nilFunc, Value.pointer none, Value.int IntKind.i32 (0), Value.int IntKind.i32 (0)] := by kernel_rfl
theorem pl_110 : placesA Try.prog 110 = some [(0, 1), (1, 1), (2, 1), (3, 1), (4, 1), (5, 1), (6, 1), (7, 1), (8, 1), (9, 1), (10, 1)] := by kernel_rfl
theorem es_110 : eszA Try.prog 110 = some 11 := by kernel_rfl
theorem u_111 : Try.prog.underlying 111 = some (TypeDesc.struct #[{ name := "Size_", type := 12, offset := 0, embedded := false, tag := "", pkgPath := "", byteOffset := 0 }, { name := "PtrBytes", type := 12, offset := 1, embedded := false, tag := "", pkgPath := "", byteOffset := 8 }, { name := "Hash", type := 87, offset := 2, embedded := false, tag := "", pkgPath := "", byteOffset := 16 }, { name := "TFlag", type := 105, offset := 3, embedded := false, tag := "", pkgPath := "", byteOffset := 20 }, { name := "Align_", type := 5, offset := 4, embedded := false, tag := "", pkgPath := "", byteOffset := 21 }, { name := "FieldAlign_", type := 5, offset := 5, embedded := false, tag := "", pkgPath := "", byteOffset := 22 }, { name := "Kind_", type := 106, offset := 6, embedded := false, tag := "", pkgPath := "", byteOffset := 23 }, { name := "Equal", type := 107, offset := 7, embedded := false, tag := "", pkgPath := "", byteOffset := 24 }, { name := "GCData", type := 93, offset := 8, embedded := false, tag := "", pkgPath := "", byteOffset := 32 }, { name := "Str", type := 108, offset := 9, embedded := false, tag := "", pkgPath := "", byteOffset := 40 }, { name := "PtrToThis", type := 109, offset := 10, embedded := false, tag := "", pkgPath := "", byteOffset := 44 }]) := by kernel_rfl
theorem f_111_0 : fieldA Try.prog 111 0 = some (0, 12) := by kernel_rfl
theorem f_111_1 : fieldA Try.prog 111 1 = some (1, 12) := by kernel_rfl
theorem f_111_2 : fieldA Try.prog 111 2 = some (2, 87) := by kernel_rfl
theorem f_111_3 : fieldA Try.prog 111 3 = some (3, 105) := by kernel_rfl
theorem f_111_4 : fieldA Try.prog 111 4 = some (4, 5) := by kernel_rfl
theorem f_111_5 : fieldA Try.prog 111 5 = some (5, 5) := by kernel_rfl
theorem f_111_6 : fieldA Try.prog 111 6 = some (6, 106) := by kernel_rfl
theorem f_111_7 : fieldA Try.prog 111 7 = some (7, 107) := by kernel_rfl
theorem f_111_8 : fieldA Try.prog 111 8 = some (8, 93) := by kernel_rfl
theorem f_111_9 : fieldA Try.prog 111 9 = some (9, 108) := by kernel_rfl
theorem f_111_10 : fieldA Try.prog 111 10 = some (10, 109) := by kernel_rfl
theorem ag_111 : isAggA Try.prog 111 = some true := by kernel_rfl
theorem sz_111 : sizeA Try.prog 111 = some 11 := by kernel_rfl
theorem by_111 : bytesA Try.prog 111 = some 48 := by kernel_rfl
theorem ze_111 : zeroA Try.prog 111 = some [Value.int IntKind.u64 (0), Value.int IntKind.u64 (0), Value.int IntKind.u32 (0), Value.int IntKind.u8 (0), Value.int IntKind.u8 (0), Value.int IntKind.u8 (0), Value.int IntKind.u8 (0), Value.nilFunc, Value.pointer none, Value.int IntKind.i32 (0), Value.int IntKind.i32 (0)] := by kernel_rfl
theorem pl_111 : placesA Try.prog 111 = some [(0, 1), (1, 1), (2, 1), (3, 1), (4, 1), (5, 1), (6, 1), (7, 1), (8, 1), (9, 1), (10, 1)] := by kernel_rfl
theorem es_111 : eszA Try.prog 111 = some 11 := by kernel_rfl
theorem tys : ((((((((((Try.prog.underlying 0 = some (TypeDesc.tuple #[])) ∧ ((isAggA Try.prog 0 = some false) ∧ (sizeA Try.prog 0 = some 1))) ∧ ((bytesA Try.prog 0 = some 0) ∧ ((zeroA Try.prog 0 = some [Value.tuple #[]]) ∧ (eszA Try.prog 0 = some 1)))) ∧ (((Try.prog.underlying 1 = some (TypeDesc.func #[] #[] false)) ∧ ((isAggA Try.prog 1 = some false) ∧ (sizeA Try.prog 1 = some 1))) ∧ ((bytesA Try.prog 1 = some 8) ∧ ((zeroA Try.prog 1 = some [Value.nilFunc]) ∧ (eszA Try.prog 1 = some 1))))) ∧ ((((Try.prog.underlying 2 = some (TypeDesc.int IntKind.i64)) ∧ ((isAggA Try.prog 2 = some false) ∧ (sizeA Try.prog 2 = some 1))) ∧ ((bytesA Try.prog 2 = some 8) ∧ ((zeroA Try.prog 2 = some [Value.int IntKind.i64 (0)]) ∧ (eszA Try.prog 2 = some 1)))) ∧ (((Try.prog.underlying 3 = some (TypeDesc.int IntKind.i64)) ∧ ((isAggA Try.prog 3 = some false) ∧ (sizeA Try.prog 3 = some 1))) ∧ ((bytesA Try.prog 3 = some 8) ∧ ((zeroA Try.prog 3 = some [Value.int IntKind.i64 (0)]) ∧ (eszA Try.prog 3 = some 1)))))) ∧ (((((Try.prog.underlying 4 = some TypeDesc.bool) ∧ ((isAggA Try.prog 4 = some false) ∧ (sizeA Try.prog 4 = some 1))) ∧ ((bytesA Try.prog 4 = some 1) ∧ ((zeroA Try.prog 4 = some [Value.bool false]) ∧ (isBoolT Try.prog 4 = true)))) ∧ (((eszA Try.prog 4 = some 1) ∧ ((Try.prog.underlying 5 = some (TypeDesc.int IntKind.u8)) ∧ (isAggA Try.prog 5 = some false))) ∧ ((sizeA Try.prog 5 = some 1) ∧ ((bytesA Try.prog 5 = some 1) ∧ (zeroA Try.prog 5 = some [Value.int IntKind.u8 (0)]))))) ∧ ((((isU8 Try.prog 5 = true) ∧ ((eszA Try.prog 5 = some 1) ∧ (Try.prog.underlying 6 = some (TypeDesc.int IntKind.u8)))) ∧ ((isAggA Try.prog 6 = some false) ∧ ((sizeA Try.prog 6 = some 1) ∧ (bytesA Try.prog 6 = some 1)))) ∧ (((zeroA Try.prog 6 = some [Value.int IntKind.u8 (0)]) ∧ ((isU8 Try.prog 6 = true) ∧ (eszA Try.prog 6 = some 1))) ∧ (((Try.prog.underlying 7 = some (TypeDesc.struct #[{ name := "x", type := 2, offset := 0, embedded := false, tag := "", pkgPath := "runtime", byteOffset := 0 }, { name := "y", type := 3, offset := 1, embedded := false, tag := "", pkgPath := "runtime", byteOffset := 8 }, { name := "signed", type := 4, offset := 2, embedded := false, tag := "", pkgPath := "runtime", byteOffset := 16 }, { name := "code", type := 6, offset := 3, embedded := false, tag := "", pkgPath := "runtime", byteOffset := 17 }])) ∧ (fieldA Try.prog 7 0 = some (0, 2))) ∧ ((fieldA Try.prog 7 1 = some (1, 3)) ∧ (fieldA Try.prog 7 2 = some (2, 4)))))))) ∧ ((((((fieldA Try.prog 7 3 = some (3, 6)) ∧ ((isAggA Try.prog 7 = some true) ∧ (sizeA Try.prog 7 = some 4))) ∧ ((bytesA Try.prog 7 = some 24) ∧ ((zeroA Try.prog 7 = some [Value.int IntKind.i64 (0), Value.int IntKind.i64 (0), Value.bool false, Value.int IntKind.u8 (0)]) ∧ (placesA Try.prog 7 = some [(0, 1), (1, 1), (2, 1), (3, 1)])))) ∧ (((eszA Try.prog 7 = some 4) ∧ ((Try.prog.underlying 8 = some (TypeDesc.struct #[{ name := "x", type := 2, offset := 0, embedded := false, tag := "", pkgPath := "runtime", byteOffset := 0 }, { name := "y", type := 3, offset := 1, embedded := false, tag := "", pkgPath := "runtime", byteOffset := 8 }, { name := "signed", type := 4, offset := 2, embedded := false, tag := "", pkgPath := "runtime", byteOffset := 16 }, { name := "code", type := 6, offset := 3, embedded := false, tag := "", pkgPath := "runtime", byteOffset := 17 }])) ∧ (fieldA Try.prog 8 0 = some (0, 2)))) ∧ ((fieldA Try.prog 8 1 = some (1, 3)) ∧ ((fieldA Try.prog 8 2 = some (2, 4)) ∧ (fieldA Try.prog 8 3 = some (3, 6)))))) ∧ ((((isAggA Try.prog 8 = some true) ∧ ((sizeA Try.prog 8 = some 4) ∧ (bytesA Try.prog 8 = some 24))) ∧ ((zeroA Try.prog 8 = some [Value.int IntKind.i64 (0), Value.int IntKind.i64 (0), Value.bool false, Value.int IntKind.u8 (0)]) ∧ ((placesA Try.prog 8 = some [(0, 1), (1, 1), (2, 1), (3, 1)]) ∧ (eszA Try.prog 8 = some 4)))) ∧ (((Try.prog.underlying 9 = some TypeDesc.string) ∧ ((isAggA Try.prog 9 = some false) ∧ (sizeA Try.prog 9 = some 1))) ∧ ((bytesA Try.prog 9 = some 16) ∧ ((zeroA Try.prog 9 = some [Value.string ⟨#[]⟩]) ∧ (eszA Try.prog 9 = some 1)))))) ∧ (((((Try.prog.underlying 10 = some TypeDesc.string) ∧ ((isAggA Try.prog 10 = some false) ∧ (sizeA Try.prog 10 = some 1))) ∧ ((bytesA Try.prog 10 = some 16) ∧ ((zeroA Try.prog 10 = some [Value.string ⟨#[]⟩]) ∧ (eszA Try.prog 10 = some 1)))) ∧ (((Try.prog.underlying 11 = some TypeDesc.string) ∧ ((isAggA Try.prog 11 = some false) ∧ (sizeA Try.prog 11 = some 1))) ∧ ((bytesA Try.prog 11 = some 16) ∧ ((zeroA Try.prog 11 = some [Value.string ⟨#[]⟩]) ∧ (eszA Try.prog 11 = some 1))))) ∧ ((((Try.prog.underlying 12 = some (TypeDesc.int IntKind.u64)) ∧ ((isAggA Try.prog 12 = some false) ∧ (sizeA Try.prog 12 = some 1))) ∧ ((bytesA Try.prog 12 = some 8) ∧ ((zeroA Try.prog 12 = some [Value.int IntKind.u64 (0)]) ∧ (eszA Try.prog 12 = some 1)))) ∧ (((Try.prog.underlying 13 = some (TypeDesc.struct #[{ name := "msg", type := 9, offset := 0, embedded := false, tag := "", pkgPath := "runtime", byteOffset := 0 }, { name := "addr", type := 12, offset := 1, embedded := false, tag := "", pkgPath := "runtime", byteOffset := 16 }])) ∧ ((fieldA Try.prog 13 0 = some (0, 9)) ∧ (fieldA Try.prog 13 1 = some (1, 12)))) ∧ (((isAggA Try.prog 13 = some true) ∧ (sizeA Try.prog 13 = some 2)) ∧ ((bytesA Try.prog 13 = some 24) ∧ (zeroA Try.prog 13 = some [Value.string ⟨#[]⟩, Value.int IntKind.u64 (0)])))))))) ∧ (((((((placesA Try.prog 13 = some [(0, 1), (1, 1)]) ∧ ((eszA Try.prog 13 = some 2) ∧ (Try.prog.underlying 14 = some (TypeDesc.struct #[{ name := "msg", type := 9, offset := 0, embedded := false, tag := "", pkgPath := "runtime", byteOffset := 0 }, { name := "addr", type := 12, offset := 1, embedded := false, tag := "", pkgPath := "runtime", byteOffset := 16 }])))) ∧ ((fieldA Try.prog 14 0 = some (0, 9)) ∧ ((fieldA Try.prog 14 1 = some (1, 12)) ∧ (isAggA Try.prog 14 = some true)))) ∧ (((sizeA Try.prog 14 = some 2) ∧ ((bytesA Try.prog 14 = some 24) ∧ (zeroA Try.prog 14 = some [Value.string ⟨#[]⟩, Value.int IntKind.u64 (0)]))) ∧ ((placesA Try.prog 14 = some [(0, 1), (1, 1)]) ∧ ((eszA Try.prog 14 = some 2) ∧ (Try.prog.underlying 15 = some (TypeDesc.pointer 101)))))) ∧ ((((isAggA Try.prog 15 = some false) ∧ ((sizeA Try.prog 15 = some 1) ∧ (bytesA Try.prog 15 = some 8))) ∧ ((zeroA Try.prog 15 = some [Value.pointer none]) ∧ ((eszA Try.prog 15 = some 1) ∧ (Try.prog.underlying 16 = some (TypeDesc.pointer 104))))) ∧ (((isAggA Try.prog 16 = some false) ∧ ((sizeA Try.prog 16 = some 1) ∧ (bytesA Try.prog 16 = some 8))) ∧ ((zeroA Try.prog 16 = some [Value.pointer none]) ∧ ((eszA Try.prog 16 = some 1) ∧ (Try.prog.underlying 17 = some (TypeDesc.pointer 111))))))) ∧ (((((isAggA Try.prog 17 = some false) ∧ ((sizeA Try.prog 17 = some 1) ∧ (bytesA Try.prog 17 = some 8))) ∧ ((zeroA Try.prog 17 = some [Value.pointer none]) ∧ ((eszA Try.prog 17 = some 1) ∧ (Try.prog.underlying 18 = some (TypeDesc.struct #[{ name := "typ", type := 17, offset := 0, embedded := false, tag := "", pkgPath := "internal/runtime/maps", byteOffset := 0 }]))))) ∧ (((fieldA Try.prog 18 0 = some (0, 17)) ∧ ((isAggA Try.prog 18 = some true) ∧ (sizeA Try.prog 18 = some 1))) ∧ ((bytesA Try.prog 18 = some 8) ∧ ((zeroA Try.prog 18 = some [Value.pointer none]) ∧ (placesA Try.prog 18 = some [(0, 1)]))))) ∧ ((((eszA Try.prog 18 = some 1) ∧ ((Try.prog.underlying 19 = some (TypeDesc.struct #[{ name := "typ", type := 17, offset := 0, embedded := false, tag := "", pkgPath := "internal/runtime/maps", byteOffset := 0 }])) ∧ (fieldA Try.prog 19 0 = some (0, 17)))) ∧ ((isAggA Try.prog 19 = some true) ∧ ((sizeA Try.prog 19 = some 1) ∧ (bytesA Try.prog 19 = some 8)))) ∧ (((zeroA Try.prog 19 = some [Value.pointer none]) ∧ ((placesA Try.prog 19 = some [(0, 1)]) ∧ (eszA Try.prog 19 = some 1))) ∧ (((Try.prog.underlying 20 = some (TypeDesc.interface #[])) ∧ (isAggA Try.prog 20 = some false)) ∧ ((sizeA Try.prog 20 = some 1) ∧ (bytesA Try.prog 20 = some 16))))))) ∧ ((((((zeroA Try.prog 20 = some [Value.nilIface]) ∧ ((eszA Try.prog 20 = some 1) ∧ (Try.prog.underlying 21 = some (TypeDesc.int IntKind.i32)))) ∧ ((isAggA Try.prog 21 = some false) ∧ ((sizeA Try.prog 21 = some 1) ∧ (bytesA Try.prog 21 = some 4)))) ∧ (((zeroA Try.prog 21 = some [Value.int IntKind.i32 (0)]) ∧ ((eszA Try.prog 21 = some 1) ∧ (Try.prog.underlying 22 = some (TypeDesc.slice 9)))) ∧ ((isAggA Try.prog 22 = some false) ∧ ((sizeA Try.prog 22 = some 1) ∧ (bytesA Try.prog 22 = some 24))))) ∧ ((((zeroA Try.prog 22 = some [Value.slice none 0 0]) ∧ ((eszA Try.prog 22 = some 1) ∧ (Try.prog.underlying 23 = some (TypeDesc.slice 3)))) ∧ ((isAggA Try.prog 23 = some false) ∧ ((sizeA Try.prog 23 = some 1) ∧ (bytesA Try.prog 23 = some 24)))) ∧ (((zeroA Try.prog 23 = some [Value.slice none 0 0]) ∧ ((eszA Try.prog 23 = some 1) ∧ (Try.prog.underlying 24 = some (TypeDesc.func #[3, 3, 3] #[3] false)))) ∧ ((isAggA Try.prog 24 = some false) ∧ ((sizeA Try.prog 24 = some 1) ∧ (bytesA Try.prog 24 = some 8)))))) ∧ (((((zeroA Try.prog 24 = some [Value.nilFunc]) ∧ ((eszA Try.prog 24 = some 1) ∧ (Try.prog.underlying 25 = some (TypeDesc.array 2 9)))) ∧ ((isAggA Try.prog 25 = some true) ∧ ((sizeA Try.prog 25 = some 2) ∧ (bytesA Try.prog 25 = some 32)))) ∧ (((zeroA Try.prog 25 = some [Value.string ⟨#[]⟩, Value.string ⟨#[]⟩]) ∧ ((eszA Try.prog 25 = some 1) ∧ (Try.prog.underlying 26 = some (TypeDesc.pointer 55)))) ∧ ((isAggA Try.prog 26 = some false) ∧ ((sizeA Try.prog 26 = some 1) ∧ (bytesA Try.prog 26 = some 8))))) ∧ ((((zeroA Try.prog 26 = some [Value.pointer none]) ∧ ((eszA Try.prog 26 = some 1) ∧ (Try.prog.underlying 27 = some (TypeDesc.int IntKind.i64)))) ∧ ((isAggA Try.prog 27 = some false) ∧ ((sizeA Try.prog 27 = some 1) ∧ (bytesA Try.prog 27 = some 8)))) ∧ (((zeroA Try.prog 27 = some [Value.int IntKind.i64 (0)]) ∧ ((eszA Try.prog 27 = some 1) ∧ (Try.prog.underlying 28 = some (TypeDesc.tuple #[26, 27])))) ∧ (((isAggA Try.prog 28 = some false) ∧ (sizeA Try.prog 28 = some 1)) ∧ ((bytesA Try.prog 28 = some 0) ∧ (zeroA Try.prog 28 = some [Value.tuple #[Value.pointer none, Value.int IntKind.i64 (0)]]))))))))) ∧ ((((((((eszA Try.prog 28 = some 1) ∧ ((Try.prog.underlying 29 = some (TypeDesc.func #[4, 3] #[26, 27] false)) ∧ (isAggA Try.prog 29 = some false))) ∧ ((sizeA Try.prog 29 = some 1) ∧ ((bytesA Try.prog 29 = some 8) ∧ (zeroA Try.prog 29 = some [Value.nilFunc])))) ∧ (((eszA Try.prog 29 = some 1) ∧ ((Try.prog.underlying 30 = some (TypeDesc.tuple #[3, 27])) ∧ (isAggA Try.prog 30 = some false))) ∧ ((sizeA Try.prog 30 = some 1) ∧ ((bytesA Try.prog 30 = some 0) ∧ (zeroA Try.prog 30 = some [Value.tuple #[Value.int IntKind.i64 (0), Value.int IntKind.i64 (0)]]))))) ∧ ((((eszA Try.prog 30 = some 1) ∧ ((Try.prog.underlying 31 = some (TypeDesc.func #[9] #[3, 27] false)) ∧ (isAggA Try.prog 31 = some false))) ∧ ((sizeA Try.prog 31 = some 1) ∧ ((bytesA Try.prog 31 = some 8) ∧ (zeroA Try.prog 31 = some [Value.nilFunc])))) ∧ (((eszA Try.prog 31 = some 1) ∧ ((Try.prog.underlying 32 = some (TypeDesc.func #[3, 9] #[3, 27] false)) ∧ (isAggA Try.prog 32 = some false))) ∧ ((sizeA Try.prog 32 = some 1) ∧ ((bytesA Try.prog 32 = some 8) ∧ (zeroA Try.prog 32 = some [Value.nilFunc])))))) ∧ (((((eszA Try.prog 32 = some 1) ∧ ((Try.prog.underlying 33 = some (TypeDesc.func #[3] #[27] false)) ∧ (isAggA Try.prog 33 = some false))) ∧ ((sizeA Try.prog 33 = some 1) ∧ ((bytesA Try.prog 33 = some 8) ∧ (zeroA Try.prog 33 = some [Value.nilFunc])))) ∧ (((eszA Try.prog 33 = some 1) ∧ ((Try.prog.underlying 34 = some (TypeDesc.func #[3] #[9] false)) ∧ (isAggA Try.prog 34 = some false))) ∧ ((sizeA Try.prog 34 = some 1) ∧ ((bytesA Try.prog 34 = some 8) ∧ (zeroA Try.prog 34 = some [Value.nilFunc]))))) ∧ ((((eszA Try.prog 34 = some 1) ∧ ((Try.prog.underlying 35 = some (TypeDesc.func #[23, 3, 3] #[3] false)) ∧ (isAggA Try.prog 35 = some false))) ∧ ((sizeA Try.prog 35 = some 1) ∧ ((bytesA Try.prog 35 = some 8) ∧ (zeroA Try.prog 35 = some [Value.nilFunc])))) ∧ (((eszA Try.prog 35 = some 1) ∧ ((Try.prog.underlying 36 = some (TypeDesc.func #[] #[4] false)) ∧ (isAggA Try.prog 36 = some false))) ∧ (((sizeA Try.prog 36 = some 1) ∧ (bytesA Try.prog 36 = some 8)) ∧ ((zeroA Try.prog 36 = some [Value.nilFunc]) ∧ (eszA Try.prog 36 = some 1))))))) ∧ ((((((Try.prog.underlying 37 = some (TypeDesc.func #[3, 22, 23] #[4] false)) ∧ ((isAggA Try.prog 37 = some false) ∧ (sizeA Try.prog 37 = some 1))) ∧ ((bytesA Try.prog 37 = some 8) ∧ ((zeroA Try.prog 37 = some [Value.nilFunc]) ∧ (eszA Try.prog 37 = some 1)))) ∧ (((Try.prog.underlying 38 = some (TypeDesc.func #[9] #[27] false)) ∧ ((isAggA Try.prog 38 = some false) ∧ (sizeA Try.prog 38 = some 1))) ∧ ((bytesA Try.prog 38 = some 8) ∧ ((zeroA Try.prog 38 = some [Value.nilFunc]) ∧ (eszA Try.prog 38 = some 1))))) ∧ ((((Try.prog.underlying 39 = some (TypeDesc.func #[9] #[4] false)) ∧ ((isAggA Try.prog 39 = some false) ∧ (sizeA Try.prog 39 = some 1))) ∧ ((bytesA Try.prog 39 = some 8) ∧ ((zeroA Try.prog 39 = some [Value.nilFunc]) ∧ (eszA Try.prog 39 = some 1)))) ∧ (((Try.prog.underlying 40 = some (TypeDesc.slice 5)) ∧ ((isAggA Try.prog 40 = some false) ∧ (sizeA Try.prog 40 = some 1))) ∧ ((bytesA Try.prog 40 = some 24) ∧ ((zeroA Try.prog 40 = some [Value.slice none 0 0]) ∧ (eszA Try.prog 40 = some 1)))))) ∧ (((((Try.prog.underlying 41 = some (TypeDesc.func #[] #[23] false)) ∧ ((isAggA Try.prog 41 = some false) ∧ (sizeA Try.prog 41 = some 1))) ∧ ((bytesA Try.prog 41 = some 8) ∧ ((zeroA Try.prog 41 = some [Value.nilFunc]) ∧ (eszA Try.prog 41 = some 1)))) ∧ (((Try.prog.underlying 42 = some (TypeDesc.func #[3, 3] #[4] false)) ∧ ((isAggA Try.prog 42 = some false) ∧ (sizeA Try.prog 42 = some 1))) ∧ ((bytesA Try.prog 42 = some 8) ∧ ((zeroA Try.prog 42 = some [Value.nilFunc]) ∧ (eszA Try.prog 42 = some 1))))) ∧ ((((Try.prog.underlying 43 = some (TypeDesc.tuple #[22, 22])) ∧ ((isAggA Try.prog 43 = some false) ∧ (sizeA Try.prog 43 = some 1))) ∧ ((bytesA Try.prog 43 = some 0) ∧ ((zeroA Try.prog 43 = some [Value.tuple #[Value.slice none 0 0, Value.slice none 0 0]]) ∧ (eszA Try.prog 43 = some 1)))) ∧ (((Try.prog.underlying 44 = some (TypeDesc.func #[26, 26, 23, 3] #[22, 22] false)) ∧ ((isAggA Try.prog 44 = some false) ∧ (sizeA Try.prog 44 = some 1))) ∧ (((bytesA Try.prog 44 = some 8) ∧ (zeroA Try.prog 44 = some [Value.nilFunc])) ∧ ((eszA Try.prog 44 = some 1) ∧ (Try.prog.underlying 45 = some (TypeDesc.func #[22, 22] #[4] false))))))))) ∧ (((((((isAggA Try.prog 45 = some false) ∧ ((sizeA Try.prog 45 = some 1) ∧ (bytesA Try.prog 45 = some 8))) ∧ ((zeroA Try.prog 45 = some [Value.nilFunc]) ∧ ((eszA Try.prog 45 = some 1) ∧ (Try.prog.underlying 46 = some (TypeDesc.tuple #[9, 4, 4, 27]))))) ∧ (((isAggA Try.prog 46 = some false) ∧ ((sizeA Try.prog 46 = some 1) ∧ (bytesA Try.prog 46 = some 0))) ∧ ((zeroA Try.prog 46 = some [Value.tuple #[Value.string ⟨#[]⟩, Value.bool false, Value.bool false, Value.int IntKind.i64 (0)]]) ∧ ((eszA Try.prog 46 = some 1) ∧ (Try.prog.underlying 47 = some (TypeDesc.func #[3] #[9, 4, 4, 27] false)))))) ∧ ((((isAggA Try.prog 47 = some false) ∧ ((sizeA Try.prog 47 = some 1) ∧ (bytesA Try.prog 47 = some 8))) ∧ ((zeroA Try.prog 47 = some [Value.nilFunc]) ∧ ((eszA Try.prog 47 = some 1) ∧ (Try.prog.underlying 48 = some (TypeDesc.func #[9, 9, 23] #[4] false))))) ∧ (((isAggA Try.prog 48 = some false) ∧ ((sizeA Try.prog 48 = some 1) ∧ (bytesA Try.prog 48 = some 8))) ∧ ((zeroA Try.prog 48 = some [Value.nilFunc]) ∧ ((eszA Try.prog 48 = some 1) ∧ (Try.prog.underlying 49 = some (TypeDesc.func #[9, 3] #[9] false))))))) ∧ (((((isAggA Try.prog 49 = some false) ∧ ((sizeA Try.prog 49 = some 1) ∧ (bytesA Try.prog 49 = some 8))) ∧ ((zeroA Try.prog 49 = some [Value.nilFunc]) ∧ ((eszA Try.prog 49 = some 1) ∧ (Try.prog.underlying 50 = some (TypeDesc.tuple #[9, 27]))))) ∧ (((isAggA Try.prog 50 = some false) ∧ ((sizeA Try.prog 50 = some 1) ∧ (bytesA Try.prog 50 = some 0))) ∧ ((zeroA Try.prog 50 = some [Value.tuple #[Value.string ⟨#[]⟩, Value.int IntKind.i64 (0)]]) ∧ ((eszA Try.prog 50 = some 1) ∧ (Try.prog.underlying 51 = some (TypeDesc.func #[3, 3] #[9, 27] false)))))) ∧ ((((isAggA Try.prog 51 = some false) ∧ ((sizeA Try.prog 51 = some 1) ∧ (bytesA Try.prog 51 = some 8))) ∧ ((zeroA Try.prog 51 = some [Value.nilFunc]) ∧ ((eszA Try.prog 51 = some 1) ∧ (Try.prog.underlying 52 = some (TypeDesc.func #[3, 9, 23] #[4] false))))) ∧ (((isAggA Try.prog 52 = some false) ∧ ((sizeA Try.prog 52 = some 1) ∧ (bytesA Try.prog 52 = some 8))) ∧ (((zeroA Try.prog 52 = some [Value.nilFunc]) ∧ (eszA Try.prog 52 = some 1)) ∧ ((Try.prog.underlying 53 = some (TypeDesc.slice 57)) ∧ (isAggA Try.prog 53 = some false))))))) ∧ ((((((sizeA Try.prog 53 = some 1) ∧ ((bytesA Try.prog 53 = some 24) ∧ (zeroA Try.prog 53 = some [Value.slice none 0 0]))) ∧ ((eszA Try.prog 53 = some 1) ∧ ((Try.prog.underlying 54 = some (TypeDesc.struct #[{ name := "first", type := 4, offset := 0, embedded := false, tag := "", pkgPath := "patchbay/mux", byteOffset := 0 }, { name := "window", type := 3, offset := 1, embedded := false, tag := "", pkgPath := "patchbay/mux", byteOffset := 8 }, { name := "nextID", type := 3, offset := 2, embedded := false, tag := "", pkgPath := "patchbay/mux", byteOffset := 16 }, { name := "streams", type := 53, offset := 3, embedded := false, tag := "", pkgPath := "patchbay/mux", byteOffset := 24 }, { name := "control", type := 9, offset := 4, embedded := false, tag := "", pkgPath := "patchbay/mux", byteOffset := 48 }, { name := "ready", type := 9, offset := 5, embedded := false, tag := "", pkgPath := "patchbay/mux", byteOffset := 64 }, { name := "turn", type := 3, offset := 6, embedded := false, tag := "", pkgPath := "patchbay/mux", byteOffset := 80 }, { name := "got", type := 9, offset := 7, embedded := false, tag := "", pkgPath := "patchbay/mux", byteOffset := 88 }, { name := "broken", type := 4, offset := 8, embedded := false, tag := "", pkgPath := "patchbay/mux", byteOffset := 104 }])) ∧ (fieldA Try.prog 54 0 = some (0, 4))))) ∧ (((fieldA Try.prog 54 1 = some (1, 3)) ∧ ((fieldA Try.prog 54 2 = some (2, 3)) ∧ (fieldA Try.prog 54 3 = some (3, 53)))) ∧ ((fieldA Try.prog 54 4 = some (4, 9)) ∧ ((fieldA Try.prog 54 5 = some (5, 9)) ∧ (fieldA Try.prog 54 6 = some (6, 3)))))) ∧ ((((fieldA Try.prog 54 7 = some (7, 9)) ∧ ((fieldA Try.prog 54 8 = some (8, 4)) ∧ (isAggA Try.prog 54 = some true))) ∧ ((sizeA Try.prog 54 = some 9) ∧ ((bytesA Try.prog 54 = some 112) ∧ (zeroA Try.prog 54 = some [Value.bool false, Value.int IntKind.i64 (0), Value.int IntKind.i64 (0), Value.slice none 0 0, Value.string ⟨#[]⟩, Value.string ⟨#[]⟩, Value.int IntKind.i64 (0), Value.string ⟨#[]⟩, Value.bool false])))) ∧ (((placesA Try.prog 54 = some [(0, 1), (1, 1), (2, 1), (3, 1), (4, 1), (5, 1), (6, 1), (7, 1), (8, 1)]) ∧ ((eszA Try.prog 54 = some 9) ∧ (Try.prog.underlying 55 = some (TypeDesc.struct #[{ name := "first", type := 4, offset := 0, embedded := false, tag := "", pkgPath := "patchbay/mux", byteOffset := 0 }, { name := "window", type := 3, offset := 1, embedded := false, tag := "", pkgPath := "patchbay/mux", byteOffset := 8 }, { name := "nextID", type := 3, offset := 2, embedded := false, tag := "", pkgPath := "patchbay/mux", byteOffset := 16 }, { name := "streams", type := 53, offset := 3, embedded := false, tag := "", pkgPath := "patchbay/mux", byteOffset := 24 }, { name := "control", type := 9, offset := 4, embedded := false, tag := "", pkgPath := "patchbay/mux", byteOffset := 48 }, { name := "ready", type := 9, offset := 5, embedded := false, tag := "", pkgPath := "patchbay/mux", byteOffset := 64 }, { name := "turn", type := 3, offset := 6, embedded := false, tag := "", pkgPath := "patchbay/mux", byteOffset := 80 }, { name := "got", type := 9, offset := 7, embedded := false, tag := "", pkgPath := "patchbay/mux", byteOffset := 88 }, { name := "broken", type := 4, offset := 8, embedded := false, tag := "", pkgPath := "patchbay/mux", byteOffset := 104 }])))) ∧ ((fieldA Try.prog 55 0 = some (0, 4)) ∧ ((fieldA Try.prog 55 1 = some (1, 3)) ∧ (fieldA Try.prog 55 2 = some (2, 3))))))) ∧ (((((fieldA Try.prog 55 3 = some (3, 53)) ∧ ((fieldA Try.prog 55 4 = some (4, 9)) ∧ (fieldA Try.prog 55 5 = some (5, 9)))) ∧ ((fieldA Try.prog 55 6 = some (6, 3)) ∧ ((fieldA Try.prog 55 7 = some (7, 9)) ∧ (fieldA Try.prog 55 8 = some (8, 4))))) ∧ (((isAggA Try.prog 55 = some true) ∧ ((sizeA Try.prog 55 = some 9) ∧ (bytesA Try.prog 55 = some 112))) ∧ ((zeroA Try.prog 55 = some [Value.bool false, Value.int IntKind.i64 (0), Value.int IntKind.i64 (0), Value.slice none 0 0, Value.string ⟨#[]⟩, Value.string ⟨#[]⟩, Value.int IntKind.i64 (0), Value.string ⟨#[]⟩, Value.bool false]) ∧ ((placesA Try.prog 55 = some [(0, 1), (1, 1), (2, 1), (3, 1), (4, 1), (5, 1), (6, 1), (7, 1), (8, 1)]) ∧ (eszA Try.prog 55 = some 9))))) ∧ ((((Try.prog.underlying 56 = some (TypeDesc.func #[4] #[3] false)) ∧ ((isAggA Try.prog 56 = some false) ∧ (sizeA Try.prog 56 = some 1))) ∧ ((bytesA Try.prog 56 = some 8) ∧ ((zeroA Try.prog 56 = some [Value.nilFunc]) ∧ (eszA Try.prog 56 = some 1)))) ∧ (((Try.prog.underlying 57 = some (TypeDesc.pointer 63)) ∧ ((isAggA Try.prog 57 = some false) ∧ (sizeA Try.prog 57 = some 1))) ∧ (((bytesA Try.prog 57 = some 8) ∧ (zeroA Try.prog 57 = some [Value.pointer none])) ∧ ((eszA Try.prog 57 = some 1) ∧ (Try.prog.underlying 58 = some (TypeDesc.func #[3, 9] #[57] false))))))))))) ∧ (((((((((isAggA Try.prog 58 = some false) ∧ ((sizeA Try.prog 58 = some 1) ∧ (bytesA Try.prog 58 = some 8))) ∧ ((zeroA Try.prog 58 = some [Value.nilFunc]) ∧ ((eszA Try.prog 58 = some 1) ∧ (Try.prog.underlying 59 = some (TypeDesc.func #[3, 3, 9] #[9] false))))) ∧ (((isAggA Try.prog 59 = some false) ∧ ((sizeA Try.prog 59 = some 1) ∧ (bytesA Try.prog 59 = some 8))) ∧ ((zeroA Try.prog 59 = some [Value.nilFunc]) ∧ ((eszA Try.prog 59 = some 1) ∧ (Try.prog.underlying 60 = some (TypeDesc.tuple #[57, 27])))))) ∧ ((((isAggA Try.prog 60 = some false) ∧ ((sizeA Try.prog 60 = some 1) ∧ (bytesA Try.prog 60 = some 0))) ∧ ((zeroA Try.prog 60 = some [Value.tuple #[Value.pointer none, Value.int IntKind.i64 (0)]]) ∧ ((eszA Try.prog 60 = some 1) ∧ (Try.prog.underlying 61 = some (TypeDesc.func #[3] #[57, 27] false))))) ∧ (((isAggA Try.prog 61 = some false) ∧ ((sizeA Try.prog 61 = some 1) ∧ (bytesA Try.prog 61 = some 8))) ∧ ((zeroA Try.prog 61 = some [Value.nilFunc]) ∧ ((eszA Try.prog 61 = some 1) ∧ (Try.prog.underlying 62 = some (TypeDesc.struct #[{ name := "id", type := 3, offset := 0, embedded := false, tag := "", pkgPath := "patchbay/mux", byteOffset := 0 }, { name := "head", type := 9, offset := 1, embedded := false, tag := "", pkgPath := "patchbay/mux", byteOffset := 8 }, { name := "out", type := 9, offset := 2, embedded := false, tag := "", pkgPath := "patchbay/mux", byteOffset := 24 }, { name := "in", type := 9, offset := 3, embedded := false, tag := "", pkgPath := "patchbay/mux", byteOffset := 40 }, { name := "window", type := 3, offset := 4, embedded := false, tag := "", pkgPath := "patchbay/mux", byteOffset := 56 }, { name := "room", type := 3, offset := 5, embedded := false, tag := "", pkgPath := "patchbay/mux", byteOffset := 64 }, { name := "taken", type := 3, offset := 6, embedded := false, tag := "", pkgPath := "patchbay/mux", byteOffset := 72 }, { name := "ends", type := 4, offset := 7, embedded := false, tag := "", pkgPath := "patchbay/mux", byteOffset := 80 }, { name := "ended", type := 4, offset := 8, embedded := false, tag := "", pkgPath := "patchbay/mux", byteOffset := 81 }, { name := "over", type := 4, offset := 9, embedded := false, tag := "", pkgPath := "patchbay/mux", byteOffset := 82 }, { name := "reset", type := 4, offset := 10, embedded := false, tag := "", pkgPath := "patchbay/mux", byteOffset := 83 }]))))))) ∧ (((((fieldA Try.prog 62 0 = some (0, 3)) ∧ ((fieldA Try.prog 62 1 = some (1, 9)) ∧ (fieldA Try.prog 62 2 = some (2, 9)))) ∧ ((fieldA Try.prog 62 3 = some (3, 9)) ∧ ((fieldA Try.prog 62 4 = some (4, 3)) ∧ (fieldA Try.prog 62 5 = some (5, 3))))) ∧ (((fieldA Try.prog 62 6 = some (6, 3)) ∧ ((fieldA Try.prog 62 7 = some (7, 4)) ∧ (fieldA Try.prog 62 8 = some (8, 4)))) ∧ ((fieldA Try.prog 62 9 = some (9, 4)) ∧ ((fieldA Try.prog 62 10 = some (10, 4)) ∧ (isAggA Try.prog 62 = some true))))) ∧ ((((sizeA Try.prog 62 = some 11) ∧ ((bytesA Try.prog 62 = some 88) ∧ (zeroA Try.prog 62 = some [Value.int IntKind.i64 (0), Value.string ⟨#[]⟩, Value.string ⟨#[]⟩, Value.string ⟨#[]⟩, Value.int IntKind.i64 (0), Value.int IntKind.i64 (0), Value.int IntKind.i64 (0), Value.bool false, Value.bool false, Value.bool false, Value.bool false]))) ∧ ((placesA Try.prog 62 = some [(0, 1), (1, 1), (2, 1), (3, 1), (4, 1), (5, 1), (6, 1), (7, 1), (8, 1), (9, 1), (10, 1)]) ∧ ((eszA Try.prog 62 = some 11) ∧ (Try.prog.underlying 63 = some (TypeDesc.struct #[{ name := "id", type := 3, offset := 0, embedded := false, tag := "", pkgPath := "patchbay/mux", byteOffset := 0 }, { name := "head", type := 9, offset := 1, embedded := false, tag := "", pkgPath := "patchbay/mux", byteOffset := 8 }, { name := "out", type := 9, offset := 2, embedded := false, tag := "", pkgPath := "patchbay/mux", byteOffset := 24 }, { name := "in", type := 9, offset := 3, embedded := false, tag := "", pkgPath := "patchbay/mux", byteOffset := 40 }, { name := "window", type := 3, offset := 4, embedded := false, tag := "", pkgPath := "patchbay/mux", byteOffset := 56 }, { name := "room", type := 3, offset := 5, embedded := false, tag := "", pkgPath := "patchbay/mux", byteOffset := 64 }, { name := "taken", type := 3, offset := 6, embedded := false, tag := "", pkgPath := "patchbay/mux", byteOffset := 72 }, { name := "ends", type := 4, offset := 7, embedded := false, tag := "", pkgPath := "patchbay/mux", byteOffset := 80 }, { name := "ended", type := 4, offset := 8, embedded := false, tag := "", pkgPath := "patchbay/mux", byteOffset := 81 }, { name := "over", type := 4, offset := 9, embedded := false, tag := "", pkgPath := "patchbay/mux", byteOffset := 82 }, { name := "reset", type := 4, offset := 10, embedded := false, tag := "", pkgPath := "patchbay/mux", byteOffset := 83 }]))))) ∧ (((fieldA Try.prog 63 0 = some (0, 3)) ∧ ((fieldA Try.prog 63 1 = some (1, 9)) ∧ (fieldA Try.prog 63 2 = some (2, 9)))) ∧ (((fieldA Try.prog 63 3 = some (3, 9)) ∧ (fieldA Try.prog 63 4 = some (4, 3))) ∧ ((fieldA Try.prog 63 5 = some (5, 3)) ∧ (fieldA Try.prog 63 6 = some (6, 3)))))))) ∧ ((((((fieldA Try.prog 63 7 = some (7, 4)) ∧ ((fieldA Try.prog 63 8 = some (8, 4)) ∧ (fieldA Try.prog 63 9 = some (9, 4)))) ∧ ((fieldA Try.prog 63 10 = some (10, 4)) ∧ ((isAggA Try.prog 63 = some true) ∧ (sizeA Try.prog 63 = some 11)))) ∧ (((bytesA Try.prog 63 = some 88) ∧ ((zeroA Try.prog 63 = some [Value.int IntKind.i64 (0), Value.string ⟨#[]⟩, Value.string ⟨#[]⟩, Value.string ⟨#[]⟩, Value.int IntKind.i64 (0), Value.int IntKind.i64 (0), Value.int IntKind.i64 (0), Value.bool false, Value.bool false, Value.bool false, Value.bool false]) ∧ (placesA Try.prog 63 = some [(0, 1), (1, 1), (2, 1), (3, 1), (4, 1), (5, 1), (6, 1), (7, 1), (8, 1), (9, 1), (10, 1)]))) ∧ ((eszA Try.prog 63 = some 11) ∧ ((Try.prog.underlying 64 = some (TypeDesc.int IntKind.u64)) ∧ (isAggA Try.prog 64 = some false))))) ∧ ((((sizeA Try.prog 64 = some 1) ∧ ((bytesA Try.prog 64 = some 8) ∧ (zeroA Try.prog 64 = some [Value.int IntKind.u64 (0)]))) ∧ ((eszA Try.prog 64 = some 1) ∧ ((Try.prog.underlying 65 = some (TypeDesc.func #[3, 3, 9] #[27] false)) ∧ (isAggA Try.prog 65 = some false)))) ∧ (((sizeA Try.prog 65 = some 1) ∧ ((bytesA Try.prog 65 = some 8) ∧ (zeroA Try.prog 65 = some [Value.nilFunc]))) ∧ ((eszA Try.prog 65 = some 1) ∧ ((Try.prog.underlying 66 = some (TypeDesc.func #[26, 22] #[22] false)) ∧ (isAggA Try.prog 66 = some false)))))) ∧ (((((sizeA Try.prog 66 = some 1) ∧ ((bytesA Try.prog 66 = some 8) ∧ (zeroA Try.prog 66 = some [Value.nilFunc]))) ∧ ((eszA Try.prog 66 = some 1) ∧ ((Try.prog.underlying 67 = some (TypeDesc.func #[3] #[57] false)) ∧ (isAggA Try.prog 67 = some false)))) ∧ (((sizeA Try.prog 67 = some 1) ∧ ((bytesA Try.prog 67 = some 8) ∧ (zeroA Try.prog 67 = some [Value.nilFunc]))) ∧ ((eszA Try.prog 67 = some 1) ∧ ((Try.prog.underlying 68 = some (TypeDesc.tuple #[64, 64])) ∧ (isAggA Try.prog 68 = some false))))) ∧ ((((sizeA Try.prog 68 = some 1) ∧ ((bytesA Try.prog 68 = some 0) ∧ (zeroA Try.prog 68 = some [Value.tuple #[Value.int IntKind.u64 (0), Value.int IntKind.u64 (0)]]))) ∧ ((eszA Try.prog 68 = some 1) ∧ ((Try.prog.underlying 69 = some (TypeDesc.func #[64, 64] #[64, 64] false)) ∧ (isAggA Try.prog 69 = some false)))) ∧ (((sizeA Try.prog 69 = some 1) ∧ ((bytesA Try.prog 69 = some 8) ∧ (zeroA Try.prog 69 = some [Value.nilFunc]))) ∧ (((eszA Try.prog 69 = some 1) ∧ (Try.prog.underlying 70 = some (TypeDesc.func #[9, 9] #[4] false))) ∧ ((isAggA Try.prog 70 = some false) ∧ (sizeA Try.prog 70 = some 1)))))))) ∧ (((((((bytesA Try.prog 70 = some 8) ∧ ((zeroA Try.prog 70 = some [Value.nilFunc]) ∧ (eszA Try.prog 70 = some 1))) ∧ ((Try.prog.underlying 71 = some (TypeDesc.pointer 73)) ∧ ((isAggA Try.prog 71 = some false) ∧ (sizeA Try.prog 71 = some 1)))) ∧ (((bytesA Try.prog 71 = some 8) ∧ ((zeroA Try.prog 71 = some [Value.pointer none]) ∧ (eszA Try.prog 71 = some 1))) ∧ ((Try.prog.underlying 72 = some (TypeDesc.struct #[{ name := "addr", type := 71, offset := 0, embedded := false, tag := "", pkgPath := "strings", byteOffset := 0 }, { name := "buf", type := 40, offset := 1, embedded := false, tag := "", pkgPath := "strings", byteOffset := 8 }])) ∧ ((fieldA Try.prog 72 0 = some (0, 71)) ∧ (fieldA Try.prog 72 1 = some (1, 40)))))) ∧ ((((isAggA Try.prog 72 = some true) ∧ ((sizeA Try.prog 72 = some 2) ∧ (bytesA Try.prog 72 = some 32))) ∧ ((zeroA Try.prog 72 = some [Value.pointer none, Value.slice none 0 0]) ∧ ((placesA Try.prog 72 = some [(0, 1), (1, 1)]) ∧ (eszA Try.prog 72 = some 2)))) ∧ (((Try.prog.underlying 73 = some (TypeDesc.struct #[{ name := "addr", type := 71, offset := 0, embedded := false, tag := "", pkgPath := "strings", byteOffset := 0 }, { name := "buf", type := 40, offset := 1, embedded := false, tag := "", pkgPath := "strings", byteOffset := 8 }])) ∧ ((fieldA Try.prog 73 0 = some (0, 71)) ∧ (fieldA Try.prog 73 1 = some (1, 40)))) ∧ ((isAggA Try.prog 73 = some true) ∧ ((sizeA Try.prog 73 = some 2) ∧ (bytesA Try.prog 73 = some 32)))))) ∧ (((((zeroA Try.prog 73 = some [Value.pointer none, Value.slice none 0 0]) ∧ ((placesA Try.prog 73 = some [(0, 1), (1, 1)]) ∧ (eszA Try.prog 73 = some 2))) ∧ ((Try.prog.underlying 74 = some (TypeDesc.func #[3] #[] false)) ∧ ((isAggA Try.prog 74 = some false) ∧ (sizeA Try.prog 74 = some 1)))) ∧ (((bytesA Try.prog 74 = some 8) ∧ ((zeroA Try.prog 74 = some [Value.nilFunc]) ∧ (eszA Try.prog 74 = some 1))) ∧ ((Try.prog.underlying 75 = some (TypeDesc.interface #[("Error", 80)])) ∧ ((isAggA Try.prog 75 = some false) ∧ (sizeA Try.prog 75 = some 1))))) ∧ ((((bytesA Try.prog 75 = some 16) ∧ ((zeroA Try.prog 75 = some [Value.nilIface]) ∧ (eszA Try.prog 75 = some 1))) ∧ ((Try.prog.underlying 76 = some (TypeDesc.interface #[("Error", 80)])) ∧ ((isAggA Try.prog 76 = some false) ∧ (sizeA Try.prog 76 = some 1)))) ∧ (((bytesA Try.prog 76 = some 16) ∧ ((zeroA Try.prog 76 = some [Value.nilIface]) ∧ (eszA Try.prog 76 = some 1))) ∧ (((Try.prog.underlying 77 = some (TypeDesc.tuple #[3, 76])) ∧ (isAggA Try.prog 77 = some false)) ∧ ((sizeA Try.prog 77 = some 1) ∧ (bytesA Try.prog 77 = some 0))))))) ∧ ((((((zeroA Try.prog 77 = some [Value.tuple #[Value.int IntKind.i64 (0), Value.nilIface]]) ∧ ((eszA Try.prog 77 = some 1) ∧ (Try.prog.underlying 78 = some (TypeDesc.func #[9] #[3, 76] false)))) ∧ ((isAggA Try.prog 78 = some false) ∧ ((sizeA Try.prog 78 = some 1) ∧ (bytesA Try.prog 78 = some 8)))) ∧ (((zeroA Try.prog 78 = some [Value.nilFunc]) ∧ ((eszA Try.prog 78 = some 1) ∧ (Try.prog.underlying 79 = some (TypeDesc.func #[] #[3] false)))) ∧ ((isAggA Try.prog 79 = some false) ∧ ((sizeA Try.prog 79 = some 1) ∧ (bytesA Try.prog 79 = some 8))))) ∧ ((((zeroA Try.prog 79 = some [Value.nilFunc]) ∧ ((eszA Try.prog 79 = some 1) ∧ (Try.prog.underlying 80 = some (TypeDesc.func #[] #[9] false)))) ∧ ((isAggA Try.prog 80 = some false) ∧ ((sizeA Try.prog 80 = some 1) ∧ (bytesA Try.prog 80 = some 8)))) ∧ (((zeroA Try.prog 80 = some [Value.nilFunc]) ∧ ((eszA Try.prog 80 = some 1) ∧ (Try.prog.underlying 81 = some (TypeDesc.func #[3] #[4] false)))) ∧ ((isAggA Try.prog 81 = some false) ∧ ((sizeA Try.prog 81 = some 1) ∧ (bytesA Try.prog 81 = some 8)))))) ∧ (((((zeroA Try.prog 81 = some [Value.nilFunc]) ∧ ((eszA Try.prog 81 = some 1) ∧ (Try.prog.underlying 82 = some (TypeDesc.func #[53, 83] #[3] false)))) ∧ ((isAggA Try.prog 82 = some false) ∧ ((sizeA Try.prog 82 = some 1) ∧ (bytesA Try.prog 82 = some 8)))) ∧ (((zeroA Try.prog 82 = some [Value.nilFunc]) ∧ ((eszA Try.prog 82 = some 1) ∧ (Try.prog.underlying 83 = some (TypeDesc.func #[57] #[4] false)))) ∧ ((isAggA Try.prog 83 = some false) ∧ ((sizeA Try.prog 83 = some 1) ∧ (bytesA Try.prog 83 = some 8))))) ∧ ((((zeroA Try.prog 83 = some [Value.nilFunc]) ∧ ((eszA Try.prog 83 = some 1) ∧ (Try.prog.underlying 84 = some (TypeDesc.func #[53, 3, 53] #[53] true)))) ∧ ((isAggA Try.prog 84 = some false) ∧ ((sizeA Try.prog 84 = some 1) ∧ (bytesA Try.prog 84 = some 8)))) ∧ (((zeroA Try.prog 84 = some [Value.nilFunc]) ∧ ((eszA Try.prog 84 = some 1) ∧ (Try.prog.underlying 85 = some (TypeDesc.func #[57] #[9] false)))) ∧ (((isAggA Try.prog 85 = some false) ∧ (sizeA Try.prog 85 = some 1)) ∧ ((bytesA Try.prog 85 = some 8) ∧ (zeroA Try.prog 85 = some [Value.nilFunc]))))))))) ∧ ((((((((eszA Try.prog 85 = some 1) ∧ ((Try.prog.underlying 86 = some (TypeDesc.func #[3, 9] #[27] false)) ∧ (isAggA Try.prog 86 = some false))) ∧ ((sizeA Try.prog 86 = some 1) ∧ ((bytesA Try.prog 86 = some 8) ∧ (zeroA Try.prog 86 = some [Value.nilFunc])))) ∧ (((eszA Try.prog 86 = some 1) ∧ ((Try.prog.underlying 87 = some (TypeDesc.int IntKind.u32)) ∧ (isAggA Try.prog 87 = some false))) ∧ ((sizeA Try.prog 87 = some 1) ∧ ((bytesA Try.prog 87 = some 4) ∧ (zeroA Try.prog 87 = some [Value.int IntKind.u32 (0)]))))) ∧ ((((eszA Try.prog 87 = some 1) ∧ ((Try.prog.underlying 88 = some (TypeDesc.tuple #[87, 87])) ∧ (isAggA Try.prog 88 = some false))) ∧ ((sizeA Try.prog 88 = some 1) ∧ ((bytesA Try.prog 88 = some 0) ∧ (zeroA Try.prog 88 = some [Value.tuple #[Value.int IntKind.u32 (0), Value.int IntKind.u32 (0)]])))) ∧ (((eszA Try.prog 88 = some 1) ∧ ((Try.prog.underlying 89 = some (TypeDesc.func #[87, 87] #[87, 87] false)) ∧ (isAggA Try.prog 89 = some false))) ∧ ((sizeA Try.prog 89 = some 1) ∧ ((bytesA Try.prog 89 = some 8) ∧ (zeroA Try.prog 89 = some [Value.nilFunc])))))) ∧ (((((eszA Try.prog 89 = some 1) ∧ ((Try.prog.underlying 90 = some (TypeDesc.int IntKind.u64)) ∧ (isAggA Try.prog 90 = some false))) ∧ ((sizeA Try.prog 90 = some 1) ∧ ((bytesA Try.prog 90 = some 8) ∧ (zeroA Try.prog 90 = some [Value.int IntKind.u64 (0)])))) ∧ (((eszA Try.prog 90 = some 1) ∧ ((Try.prog.underlying 91 = some (TypeDesc.tuple #[90, 90])) ∧ (isAggA Try.prog 91 = some false))) ∧ ((sizeA Try.prog 91 = some 1) ∧ ((bytesA Try.prog 91 = some 0) ∧ (zeroA Try.prog 91 = some [Value.tuple #[Value.int IntKind.u64 (0), Value.int IntKind.u64 (0)]]))))) ∧ ((((eszA Try.prog 91 = some 1) ∧ ((Try.prog.underlying 92 = some (TypeDesc.func #[90, 90] #[90, 90] false)) ∧ (isAggA Try.prog 92 = some false))) ∧ ((sizeA Try.prog 92 = some 1) ∧ ((bytesA Try.prog 92 = some 8) ∧ (zeroA Try.prog 92 = some [Value.nilFunc])))) ∧ (((eszA Try.prog 92 = some 1) ∧ ((Try.prog.underlying 93 = some (TypeDesc.pointer 5)) ∧ (isAggA Try.prog 93 = some false))) ∧ (((sizeA Try.prog 93 = some 1) ∧ (bytesA Try.prog 93 = some 8)) ∧ ((zeroA Try.prog 93 = some [Value.pointer none]) ∧ (eszA Try.prog 93 = some 1))))))) ∧ ((((((Try.prog.underlying 94 = some (TypeDesc.func #[53, 53] #[4] false)) ∧ ((isAggA Try.prog 94 = some false) ∧ (sizeA Try.prog 94 = some 1))) ∧ ((bytesA Try.prog 94 = some 8) ∧ ((zeroA Try.prog 94 = some [Value.nilFunc]) ∧ (eszA Try.prog 94 = some 1)))) ∧ (((Try.prog.underlying 95 = some (TypeDesc.func #[53, 3] #[] false)) ∧ ((isAggA Try.prog 95 = some false) ∧ (sizeA Try.prog 95 = some 1))) ∧ ((bytesA Try.prog 95 = some 8) ∧ ((zeroA Try.prog 95 = some [Value.nilFunc]) ∧ (eszA Try.prog 95 = some 1))))) ∧ ((((Try.prog.underlying 96 = some TypeDesc.unsafePointer) ∧ ((isAggA Try.prog 96 = some false) ∧ (sizeA Try.prog 96 = some 1))) ∧ ((bytesA Try.prog 96 = some 8) ∧ ((zeroA Try.prog 96 = some [Value.pointer none]) ∧ (eszA Try.prog 96 = some 1)))) ∧ (((Try.prog.underlying 97 = some (TypeDesc.func #[96] #[96] false)) ∧ ((isAggA Try.prog 97 = some false) ∧ (sizeA Try.prog 97 = some 1))) ∧ ((bytesA Try.prog 97 = some 8) ∧ ((zeroA Try.prog 97 = some [Value.nilFunc]) ∧ (eszA Try.prog 97 = some 1)))))) ∧ (((((Try.prog.underlying 98 = some (TypeDesc.func #[3] #[40] false)) ∧ ((isAggA Try.prog 98 = some false) ∧ (sizeA Try.prog 98 = some 1))) ∧ ((bytesA Try.prog 98 = some 8) ∧ ((zeroA Try.prog 98 = some [Value.nilFunc]) ∧ (eszA Try.prog 98 = some 1)))) ∧ (((Try.prog.underlying 99 = some (TypeDesc.func #[53] #[] false)) ∧ ((isAggA Try.prog 99 = some false) ∧ (sizeA Try.prog 99 = some 1))) ∧ ((bytesA Try.prog 99 = some 8) ∧ ((zeroA Try.prog 99 = some [Value.nilFunc]) ∧ (eszA Try.prog 99 = some 1))))) ∧ ((((Try.prog.underlying 100 = some (TypeDesc.struct #[{ name := "_interface", type := 17, offset := 0, embedded := false, tag := "", pkgPath := "runtime", byteOffset := 0 }, { name := "concrete", type := 17, offset := 1, embedded := false, tag := "", pkgPath := "runtime", byteOffset := 8 }, { name := "asserted", type := 17, offset := 2, embedded := false, tag := "", pkgPath := "runtime", byteOffset := 16 }, { name := "missingMethod", type := 9, offset := 3, embedded := false, tag := "", pkgPath := "runtime", byteOffset := 24 }])) ∧ ((fieldA Try.prog 100 0 = some (0, 17)) ∧ (fieldA Try.prog 100 1 = some (1, 17)))) ∧ ((fieldA Try.prog 100 2 = some (2, 17)) ∧ ((fieldA Try.prog 100 3 = some (3, 9)) ∧ (isAggA Try.prog 100 = some true)))) ∧ (((sizeA Try.prog 100 = some 4) ∧ ((bytesA Try.prog 100 = some 40) ∧ (zeroA Try.prog 100 = some [Value.pointer none, Value.pointer none, Value.pointer none, Value.string ⟨#[]⟩]))) ∧ (((placesA Try.prog 100 = some [(0, 1), (1, 1), (2, 1), (3, 1)]) ∧ (eszA Try.prog 100 = some 4)) ∧ ((Try.prog.underlying 101 = some (TypeDesc.struct #[{ name := "_interface", type := 17, offset := 0, embedded := false, tag := "", pkgPath := "runtime", byteOffset := 0 }, { name := "concrete", type := 17, offset := 1, embedded := false, tag := "", pkgPath := "runtime", byteOffset := 8 }, { name := "asserted", type := 17, offset := 2, embedded := false, tag := "", pkgPath := "runtime", byteOffset := 16 }, { name := "missingMethod", type := 9, offset := 3, embedded := false, tag := "", pkgPath := "runtime", byteOffset := 24 }])) ∧ (fieldA Try.prog 101 0 = some (0, 17))))))))) ∧ (((((((fieldA Try.prog 101 1 = some (1, 17)) ∧ ((fieldA Try.prog 101 2 = some (2, 17)) ∧ (fieldA Try.prog 101 3 = some (3, 9)))) ∧ ((isAggA Try.prog 101 = some true) ∧ ((sizeA Try.prog 101 = some 4) ∧ (bytesA Try.prog 101 = some 40)))) ∧ (((zeroA Try.prog 101 = some [Value.pointer none, Value.pointer none, Value.pointer none, Value.string ⟨#[]⟩]) ∧ ((placesA Try.prog 101 = some [(0, 1), (1, 1), (2, 1), (3, 1)]) ∧ (eszA Try.prog 101 = some 4))) ∧ ((Try.prog.underlying 102 = some (TypeDesc.array 0 16)) ∧ ((isAggA Try.prog 102 = some true) ∧ (sizeA Try.prog 102 = some 0))))) ∧ ((((bytesA Try.prog 102 = some 0) ∧ ((zeroA Try.prog 102 = some []) ∧ (eszA Try.prog 102 = some 1))) ∧ ((Try.prog.underlying 103 = some (TypeDesc.struct #[{ name := "_", type := 102, offset := 0, embedded := false, tag := "", pkgPath := "runtime", byteOffset := 0 }])) ∧ ((fieldA Try.prog 103 0 = some (0, 102)) ∧ (isAggA Try.prog 103 = some true)))) ∧ (((sizeA Try.prog 103 = some 0) ∧ ((bytesA Try.prog 103 = some 0) ∧ (zeroA Try.prog 103 = some []))) ∧ ((placesA Try.prog 103 = some [(0, 0)]) ∧ ((eszA Try.prog 103 = some 0) ∧ (Try.prog.underlying 104 = some (TypeDesc.struct #[{ name := "_", type := 102, offset := 0, embedded := false, tag := "", pkgPath := "runtime", byteOffset := 0 }]))))))) ∧ (((((fieldA Try.prog 104 0 = some (0, 102)) ∧ ((isAggA Try.prog 104 = some true) ∧ (sizeA Try.prog 104 = some 0))) ∧ ((bytesA Try.prog 104 = some 0) ∧ ((zeroA Try.prog 104 = some []) ∧ (placesA Try.prog 104 = some [(0, 0)])))) ∧ (((eszA Try.prog 104 = some 0) ∧ ((Try.prog.underlying 105 = some (TypeDesc.int IntKind.u8)) ∧ (isAggA Try.prog 105 = some false))) ∧ ((sizeA Try.prog 105 = some 1) ∧ ((bytesA Try.prog 105 = some 1) ∧ (zeroA Try.prog 105 = some [Value.int IntKind.u8 (0)]))))) ∧ ((((isU8 Try.prog 105 = true) ∧ ((eszA Try.prog 105 = some 1) ∧ (Try.prog.underlying 106 = some (TypeDesc.int IntKind.u8)))) ∧ ((isAggA Try.prog 106 = some false) ∧ ((sizeA Try.prog 106 = some 1) ∧ (bytesA Try.prog 106 = some 1)))) ∧ (((zeroA Try.prog 106 = some [Value.int IntKind.u8 (0)]) ∧ ((isU8 Try.prog 106 = true) ∧ (eszA Try.prog 106 = some 1))) ∧ (((Try.prog.underlying 107 = some (TypeDesc.func #[96, 96] #[4] false)) ∧ (isAggA Try.prog 107 = some false)) ∧ ((sizeA Try.prog 107 = some 1) ∧ (bytesA Try.prog 107 = some 8))))))) ∧ ((((((zeroA Try.prog 107 = some [Value.nilFunc]) ∧ ((eszA Try.prog 107 = some 1) ∧ (Try.prog.underlying 108 = some (TypeDesc.int IntKind.i32)))) ∧ ((isAggA Try.prog 108 = some false) ∧ ((sizeA Try.prog 108 = some 1) ∧ (bytesA Try.prog 108 = some 4)))) ∧ (((zeroA Try.prog 108 = some [Value.int IntKind.i32 (0)]) ∧ ((eszA Try.prog 108 = some 1) ∧ (Try.prog.underlying 109 = some (TypeDesc.int IntKind.i32)))) ∧ ((isAggA Try.prog 109 = some false) ∧ ((sizeA Try.prog 109 = some 1) ∧ (bytesA Try.prog 109 = some 4))))) ∧ ((((zeroA Try.prog 109 = some [Value.int IntKind.i32 (0)]) ∧ ((eszA Try.prog 109 = some 1) ∧ (Try.prog.underlying 110 = some (TypeDesc.struct #[{ name := "Size_", type := 12, offset := 0, embedded := false, tag := "", pkgPath := "", byteOffset := 0 }, { name := "PtrBytes", type := 12, offset := 1, embedded := false, tag := "", pkgPath := "", byteOffset := 8 }, { name := "Hash", type := 87, offset := 2, embedded := false, tag := "", pkgPath := "", byteOffset := 16 }, { name := "TFlag", type := 105, offset := 3, embedded := false, tag := "", pkgPath := "", byteOffset := 20 }, { name := "Align_", type := 5, offset := 4, embedded := false, tag := "", pkgPath := "", byteOffset := 21 }, { name := "FieldAlign_", type := 5, offset := 5, embedded := false, tag := "", pkgPath := "", byteOffset := 22 }, { name := "Kind_", type := 106, offset := 6, embedded := false, tag := "", pkgPath := "", byteOffset := 23 }, { name := "Equal", type := 107, offset := 7, embedded := false, tag := "", pkgPath := "", byteOffset := 24 }, { name := "GCData", type := 93, offset := 8, embedded := false, tag := "", pkgPath := "", byteOffset := 32 }, { name := "Str", type := 108, offset := 9, embedded := false, tag := "", pkgPath := "", byteOffset := 40 }, { name := "PtrToThis", type := 109, offset := 10, embedded := false, tag := "", pkgPath := "", byteOffset := 44 }])))) ∧ ((fieldA Try.prog 110 0 = some (0, 12)) ∧ ((fieldA Try.prog 110 1 = some (1, 12)) ∧ (fieldA Try.prog 110 2 = some (2, 87))))) ∧ (((fieldA Try.prog 110 3 = some (3, 105)) ∧ ((fieldA Try.prog 110 4 = some (4, 5)) ∧ (fieldA Try.prog 110 5 = some (5, 5)))) ∧ (((fieldA Try.prog 110 6 = some (6, 106)) ∧ (fieldA Try.prog 110 7 = some (7, 107))) ∧ ((fieldA Try.prog 110 8 = some (8, 93)) ∧ (fieldA Try.prog 110 9 = some (9, 108))))))) ∧ (((((fieldA Try.prog 110 10 = some (10, 109)) ∧ ((isAggA Try.prog 110 = some true) ∧ (sizeA Try.prog 110 = some 11))) ∧ ((bytesA Try.prog 110 = some 48) ∧ ((zeroA Try.prog 110 = some [Value.int IntKind.u64 (0), Value.int IntKind.u64 (0), Value.int IntKind.u32 (0), Value.int IntKind.u8 (0), Value.int IntKind.u8 (0), Value.int IntKind.u8 (0), Value.int IntKind.u8 (0), Value.nilFunc, Value.pointer none, Value.int IntKind.i32 (0), Value.int IntKind.i32 (0)]) ∧ (placesA Try.prog 110 = some [(0, 1), (1, 1), (2, 1), (3, 1), (4, 1), (5, 1), (6, 1), (7, 1), (8, 1), (9, 1), (10, 1)])))) ∧ (((eszA Try.prog 110 = some 11) ∧ ((Try.prog.underlying 111 = some (TypeDesc.struct #[{ name := "Size_", type := 12, offset := 0, embedded := false, tag := "", pkgPath := "", byteOffset := 0 }, { name := "PtrBytes", type := 12, offset := 1, embedded := false, tag := "", pkgPath := "", byteOffset := 8 }, { name := "Hash", type := 87, offset := 2, embedded := false, tag := "", pkgPath := "", byteOffset := 16 }, { name := "TFlag", type := 105, offset := 3, embedded := false, tag := "", pkgPath := "", byteOffset := 20 }, { name := "Align_", type := 5, offset := 4, embedded := false, tag := "", pkgPath := "", byteOffset := 21 }, { name := "FieldAlign_", type := 5, offset := 5, embedded := false, tag := "", pkgPath := "", byteOffset := 22 }, { name := "Kind_", type := 106, offset := 6, embedded := false, tag := "", pkgPath := "", byteOffset := 23 }, { name := "Equal", type := 107, offset := 7, embedded := false, tag := "", pkgPath := "", byteOffset := 24 }, { name := "GCData", type := 93, offset := 8, embedded := false, tag := "", pkgPath := "", byteOffset := 32 }, { name := "Str", type := 108, offset := 9, embedded := false, tag := "", pkgPath := "", byteOffset := 40 }, { name := "PtrToThis", type := 109, offset := 10, embedded := false, tag := "", pkgPath := "", byteOffset := 44 }])) ∧ (fieldA Try.prog 111 0 = some (0, 12)))) ∧ ((fieldA Try.prog 111 1 = some (1, 12)) ∧ ((fieldA Try.prog 111 2 = some (2, 87)) ∧ (fieldA Try.prog 111 3 = some (3, 105)))))) ∧ ((((fieldA Try.prog 111 4 = some (4, 5)) ∧ ((fieldA Try.prog 111 5 = some (5, 5)) ∧ (fieldA Try.prog 111 6 = some (6, 106)))) ∧ ((fieldA Try.prog 111 7 = some (7, 107)) ∧ ((fieldA Try.prog 111 8 = some (8, 93)) ∧ (fieldA Try.prog 111 9 = some (9, 108))))) ∧ (((fieldA Try.prog 111 10 = some (10, 109)) ∧ ((isAggA Try.prog 111 = some true) ∧ (sizeA Try.prog 111 = some 11))) ∧ (((bytesA Try.prog 111 = some 48) ∧ (zeroA Try.prog 111 = some [Value.int IntKind.u64 (0), Value.int IntKind.u64 (0), Value.int IntKind.u32 (0), Value.int IntKind.u8 (0), Value.int IntKind.u8 (0), Value.int IntKind.u8 (0), Value.int IntKind.u8 (0), Value.nilFunc, Value.pointer none, Value.int IntKind.i32 (0), Value.int IntKind.i32 (0)])) ∧ ((placesA Try.prog 111 = some [(0, 1), (1, 1), (2, 1), (3, 1), (4, 1), (5, 1), (6, 1), (7, 1), (8, 1), (9, 1), (10, 1)]) ∧ (eszA Try.prog 111 = some 11))))))))))) := ⟨⟨⟨⟨⟨⟨⟨⟨⟨u_0, ⟨ag_0, sz_0⟩⟩, ⟨by_0, ⟨ze_0, es_0⟩⟩⟩, ⟨⟨u_1, ⟨ag_1, sz_1⟩⟩, ⟨by_1, ⟨ze_1, es_1⟩⟩⟩⟩, ⟨⟨⟨u_2, ⟨ag_2, sz_2⟩⟩, ⟨by_2, ⟨ze_2, es_2⟩⟩⟩, ⟨⟨u_3, ⟨ag_3, sz_3⟩⟩, ⟨by_3, ⟨ze_3, es_3⟩⟩⟩⟩⟩, ⟨⟨⟨⟨u_4, ⟨ag_4, sz_4⟩⟩, ⟨by_4, ⟨ze_4, bo_4⟩⟩⟩, ⟨⟨es_4, ⟨u_5, ag_5⟩⟩, ⟨sz_5, ⟨by_5, ze_5⟩⟩⟩⟩, ⟨⟨⟨u8_5, ⟨es_5, u_6⟩⟩, ⟨ag_6, ⟨sz_6, by_6⟩⟩⟩, ⟨⟨ze_6, ⟨u8_6, es_6⟩⟩, ⟨⟨u_7, f_7_0⟩, ⟨f_7_1, f_7_2⟩⟩⟩⟩⟩⟩, ⟨⟨⟨⟨⟨f_7_3, ⟨ag_7, sz_7⟩⟩, ⟨by_7, ⟨ze_7, pl_7⟩⟩⟩, ⟨⟨es_7, ⟨u_8, f_8_0⟩⟩, ⟨f_8_1, ⟨f_8_2, f_8_3⟩⟩⟩⟩, ⟨⟨⟨ag_8, ⟨sz_8, by_8⟩⟩, ⟨ze_8, ⟨pl_8, es_8⟩⟩⟩, ⟨⟨u_9, ⟨ag_9, sz_9⟩⟩, ⟨by_9, ⟨ze_9, es_9⟩⟩⟩⟩⟩, ⟨⟨⟨⟨u_10, ⟨ag_10, sz_10⟩⟩, ⟨by_10, ⟨ze_10, es_10⟩⟩⟩, ⟨⟨u_11, ⟨ag_11, sz_11⟩⟩, ⟨by_11, ⟨ze_11, es_11⟩⟩⟩⟩, ⟨⟨⟨u_12, ⟨ag_12, sz_12⟩⟩, ⟨by_12, ⟨ze_12, es_12⟩⟩⟩, ⟨⟨u_13, ⟨f_13_0, f_13_1⟩⟩, ⟨⟨ag_13, sz_13⟩, ⟨by_13, ze_13⟩⟩⟩⟩⟩⟩⟩, ⟨⟨⟨⟨⟨⟨pl_13, ⟨es_13, u_14⟩⟩, ⟨f_14_0, ⟨f_14_1, ag_14⟩⟩⟩, ⟨⟨sz_14, ⟨by_14, ze_14⟩⟩, ⟨pl_14, ⟨es_14, u_15⟩⟩⟩⟩, ⟨⟨⟨ag_15, ⟨sz_15, by_15⟩⟩, ⟨ze_15, ⟨es_15, u_16⟩⟩⟩, ⟨⟨ag_16, ⟨sz_16, by_16⟩⟩, ⟨ze_16, ⟨es_16, u_17⟩⟩⟩⟩⟩, ⟨⟨⟨⟨ag_17, ⟨sz_17, by_17⟩⟩, ⟨ze_17, ⟨es_17, u_18⟩⟩⟩, ⟨⟨f_18_0, ⟨ag_18, sz_18⟩⟩, ⟨by_18, ⟨ze_18, pl_18⟩⟩⟩⟩, ⟨⟨⟨es_18, ⟨u_19, f_19_0⟩⟩, ⟨ag_19, ⟨sz_19, by_19⟩⟩⟩, ⟨⟨ze_19, ⟨pl_19, es_19⟩⟩, ⟨⟨u_20, ag_20⟩, ⟨sz_20, by_20⟩⟩⟩⟩⟩⟩, ⟨⟨⟨⟨⟨ze_20, ⟨es_20, u_21⟩⟩, ⟨ag_21, ⟨sz_21, by_21⟩⟩⟩, ⟨⟨ze_21, ⟨es_21, u_22⟩⟩, ⟨ag_22, ⟨sz_22, by_22⟩⟩⟩⟩, ⟨⟨⟨ze_22, ⟨es_22, u_23⟩⟩, ⟨ag_23, ⟨sz_23, by_23⟩⟩⟩, ⟨⟨ze_23, ⟨es_23, u_24⟩⟩, ⟨ag_24, ⟨sz_24, by_24⟩⟩⟩⟩⟩, ⟨⟨⟨⟨ze_24, ⟨es_24, u_25⟩⟩, ⟨ag_25, ⟨sz_25, by_25⟩⟩⟩, ⟨⟨ze_25, ⟨es_25, u_26⟩⟩, ⟨ag_26, ⟨sz_26, by_26⟩⟩⟩⟩, ⟨⟨⟨ze_26, ⟨es_26, u_27⟩⟩, ⟨ag_27, ⟨sz_27, by_27⟩⟩⟩, ⟨⟨ze_27, ⟨es_27, u_28⟩⟩, ⟨⟨ag_28, sz_28⟩, ⟨by_28, ze_28⟩⟩⟩⟩⟩⟩⟩⟩, ⟨⟨⟨⟨⟨⟨⟨es_28, ⟨u_29, ag_29⟩⟩, ⟨sz_29, ⟨by_29, ze_29⟩⟩⟩, ⟨⟨es_29, ⟨u_30, ag_30⟩⟩, ⟨sz_30, ⟨by_30, ze_30⟩⟩⟩⟩, ⟨⟨⟨es_30, ⟨u_31, ag_31⟩⟩, ⟨sz_31, ⟨by_31, ze_31⟩⟩⟩, ⟨⟨es_31, ⟨u_32, ag_32⟩⟩, ⟨sz_32, ⟨by_32, ze_32⟩⟩⟩⟩⟩, ⟨⟨⟨⟨es_32, ⟨u_33, ag_33⟩⟩, ⟨sz_33, ⟨by_33, ze_33⟩⟩⟩, ⟨⟨es_33, ⟨u_34, ag_34⟩⟩, ⟨sz_34, ⟨by_34, ze_34⟩⟩⟩⟩, ⟨⟨⟨es_34, ⟨u_35, ag_35⟩⟩, ⟨sz_35, ⟨by_35, ze_35⟩⟩⟩, ⟨⟨es_35, ⟨u_36, ag_36⟩⟩, ⟨⟨sz_36, by_36⟩, ⟨ze_36, es_36⟩⟩⟩⟩⟩⟩, ⟨⟨⟨⟨⟨u_37, ⟨ag_37, sz_37⟩⟩, ⟨by_37, ⟨ze_37, es_37⟩⟩⟩, ⟨⟨u_38, ⟨ag_38, sz_38⟩⟩, ⟨by_38, ⟨ze_38, es_38⟩⟩⟩⟩, ⟨⟨⟨u_39, ⟨ag_39, sz_39⟩⟩, ⟨by_39, ⟨ze_39, es_39⟩⟩⟩, ⟨⟨u_40, ⟨ag_40, sz_40⟩⟩, ⟨by_40, ⟨ze_40, es_40⟩⟩⟩⟩⟩, ⟨⟨⟨⟨u_41, ⟨ag_41, sz_41⟩⟩, ⟨by_41, ⟨ze_41, es_41⟩⟩⟩, ⟨⟨u_42, ⟨ag_42, sz_42⟩⟩, ⟨by_42, ⟨ze_42, es_42⟩⟩⟩⟩, ⟨⟨⟨u_43, ⟨ag_43, sz_43⟩⟩, ⟨by_43, ⟨ze_43, es_43⟩⟩⟩, ⟨⟨u_44, ⟨ag_44, sz_44⟩⟩, ⟨⟨by_44, ze_44⟩, ⟨es_44, u_45⟩⟩⟩⟩⟩⟩⟩, ⟨⟨⟨⟨⟨⟨ag_45, ⟨sz_45, by_45⟩⟩, ⟨ze_45, ⟨es_45, u_46⟩⟩⟩, ⟨⟨ag_46, ⟨sz_46, by_46⟩⟩, ⟨ze_46, ⟨es_46, u_47⟩⟩⟩⟩, ⟨⟨⟨ag_47, ⟨sz_47, by_47⟩⟩, ⟨ze_47, ⟨es_47, u_48⟩⟩⟩, ⟨⟨ag_48, ⟨sz_48, by_48⟩⟩, ⟨ze_48, ⟨es_48, u_49⟩⟩⟩⟩⟩, ⟨⟨⟨⟨ag_49, ⟨sz_49, by_49⟩⟩, ⟨ze_49, ⟨es_49, u_50⟩⟩⟩, ⟨⟨ag_50, ⟨sz_50, by_50⟩⟩, ⟨ze_50, ⟨es_50, u_51⟩⟩⟩⟩, ⟨⟨⟨ag_51, ⟨sz_51, by_51⟩⟩, ⟨ze_51, ⟨es_51, u_52⟩⟩⟩, ⟨⟨ag_52, ⟨sz_52, by_52⟩⟩, ⟨⟨ze_52, es_52⟩, ⟨u_53, ag_53⟩⟩⟩⟩⟩⟩, ⟨⟨⟨⟨⟨sz_53, ⟨by_53, ze_53⟩⟩, ⟨es_53, ⟨u_54, f_54_0⟩⟩⟩, ⟨⟨f_54_1, ⟨f_54_2, f_54_3⟩⟩, ⟨f_54_4, ⟨f_54_5, f_54_6⟩⟩⟩⟩, ⟨⟨⟨f_54_7, ⟨f_54_8, ag_54⟩⟩, ⟨sz_54, ⟨by_54, ze_54⟩⟩⟩, ⟨⟨pl_54, ⟨es_54, u_55⟩⟩, ⟨f_55_0, ⟨f_55_1, f_55_2⟩⟩⟩⟩⟩, ⟨⟨⟨⟨f_55_3, ⟨f_55_4, f_55_5⟩⟩, ⟨f_55_6, ⟨f_55_7, f_55_8⟩⟩⟩, ⟨⟨ag_55, ⟨sz_55, by_55⟩⟩, ⟨ze_55, ⟨pl_55, es_55⟩⟩⟩⟩, ⟨⟨⟨u_56, ⟨ag_56, sz_56⟩⟩, ⟨by_56, ⟨ze_56, es_56⟩⟩⟩, ⟨⟨u_57, ⟨ag_57, sz_57⟩⟩, ⟨⟨by_57, ze_57⟩, ⟨es_57, u_58⟩⟩⟩⟩⟩⟩⟩⟩⟩, ⟨⟨⟨⟨⟨⟨⟨⟨ag_58, ⟨sz_58, by_58⟩⟩, ⟨ze_58, ⟨es_58, u_59⟩⟩⟩, ⟨⟨ag_59, ⟨sz_59, by_59⟩⟩, ⟨ze_59, ⟨es_59, u_60⟩⟩⟩⟩, ⟨⟨⟨ag_60, ⟨sz_60, by_60⟩⟩, ⟨ze_60, ⟨es_60, u_61⟩⟩⟩, ⟨⟨ag_61, ⟨sz_61, by_61⟩⟩, ⟨ze_61, ⟨es_61, u_62⟩⟩⟩⟩⟩, ⟨⟨⟨⟨f_62_0, ⟨f_62_1, f_62_2⟩⟩, ⟨f_62_3, ⟨f_62_4, f_62_5⟩⟩⟩, ⟨⟨f_62_6, ⟨f_62_7, f_62_8⟩⟩, ⟨f_62_9, ⟨f_62_10, ag_62⟩⟩⟩⟩, ⟨⟨⟨sz_62, ⟨by_62, ze_62⟩⟩, ⟨pl_62, ⟨es_62, u_63⟩⟩⟩, ⟨⟨f_63_0, ⟨f_63_1, f_63_2⟩⟩, ⟨⟨f_63_3, f_63_4⟩, ⟨f_63_5, f_63_6⟩⟩⟩⟩⟩⟩, ⟨⟨⟨⟨⟨f_63_7, ⟨f_63_8, f_63_9⟩⟩, ⟨f_63_10, ⟨ag_63, sz_63⟩⟩⟩, ⟨⟨by_63, ⟨ze_63, pl_63⟩⟩, ⟨es_63, ⟨u_64, ag_64⟩⟩⟩⟩, ⟨⟨⟨sz_64, ⟨by_64, ze_64⟩⟩, ⟨es_64, ⟨u_65, ag_65⟩⟩⟩, ⟨⟨sz_65, ⟨by_65, ze_65⟩⟩, ⟨es_65, ⟨u_66, ag_66⟩⟩⟩⟩⟩, ⟨⟨⟨⟨sz_66, ⟨by_66, ze_66⟩⟩, ⟨es_66, ⟨u_67, ag_67⟩⟩⟩, ⟨⟨sz_67, ⟨by_67, ze_67⟩⟩, ⟨es_67, ⟨u_68, ag_68⟩⟩⟩⟩, ⟨⟨⟨sz_68, ⟨by_68, ze_68⟩⟩, ⟨es_68, ⟨u_69, ag_69⟩⟩⟩, ⟨⟨sz_69, ⟨by_69, ze_69⟩⟩, ⟨⟨es_69, u_70⟩, ⟨ag_70, sz_70⟩⟩⟩⟩⟩⟩⟩, ⟨⟨⟨⟨⟨⟨by_70, ⟨ze_70, es_70⟩⟩, ⟨u_71, ⟨ag_71, sz_71⟩⟩⟩, ⟨⟨by_71, ⟨ze_71, es_71⟩⟩, ⟨u_72, ⟨f_72_0, f_72_1⟩⟩⟩⟩, ⟨⟨⟨ag_72, ⟨sz_72, by_72⟩⟩, ⟨ze_72, ⟨pl_72, es_72⟩⟩⟩, ⟨⟨u_73, ⟨f_73_0, f_73_1⟩⟩, ⟨ag_73, ⟨sz_73, by_73⟩⟩⟩⟩⟩, ⟨⟨⟨⟨ze_73, ⟨pl_73, es_73⟩⟩, ⟨u_74, ⟨ag_74, sz_74⟩⟩⟩, ⟨⟨by_74, ⟨ze_74, es_74⟩⟩, ⟨u_75, ⟨ag_75, sz_75⟩⟩⟩⟩, ⟨⟨⟨by_75, ⟨ze_75, es_75⟩⟩, ⟨u_76, ⟨ag_76, sz_76⟩⟩⟩, ⟨⟨by_76, ⟨ze_76, es_76⟩⟩, ⟨⟨u_77, ag_77⟩, ⟨sz_77, by_77⟩⟩⟩⟩⟩⟩, ⟨⟨⟨⟨⟨ze_77, ⟨es_77, u_78⟩⟩, ⟨ag_78, ⟨sz_78, by_78⟩⟩⟩, ⟨⟨ze_78, ⟨es_78, u_79⟩⟩, ⟨ag_79, ⟨sz_79, by_79⟩⟩⟩⟩, ⟨⟨⟨ze_79, ⟨es_79, u_80⟩⟩, ⟨ag_80, ⟨sz_80, by_80⟩⟩⟩, ⟨⟨ze_80, ⟨es_80, u_81⟩⟩, ⟨ag_81, ⟨sz_81, by_81⟩⟩⟩⟩⟩, ⟨⟨⟨⟨ze_81, ⟨es_81, u_82⟩⟩, ⟨ag_82, ⟨sz_82, by_82⟩⟩⟩, ⟨⟨ze_82, ⟨es_82, u_83⟩⟩, ⟨ag_83, ⟨sz_83, by_83⟩⟩⟩⟩, ⟨⟨⟨ze_83, ⟨es_83, u_84⟩⟩, ⟨ag_84, ⟨sz_84, by_84⟩⟩⟩, ⟨⟨ze_84, ⟨es_84, u_85⟩⟩, ⟨⟨ag_85, sz_85⟩, ⟨by_85, ze_85⟩⟩⟩⟩⟩⟩⟩⟩, ⟨⟨⟨⟨⟨⟨⟨es_85, ⟨u_86, ag_86⟩⟩, ⟨sz_86, ⟨by_86, ze_86⟩⟩⟩, ⟨⟨es_86, ⟨u_87, ag_87⟩⟩, ⟨sz_87, ⟨by_87, ze_87⟩⟩⟩⟩, ⟨⟨⟨es_87, ⟨u_88, ag_88⟩⟩, ⟨sz_88, ⟨by_88, ze_88⟩⟩⟩, ⟨⟨es_88, ⟨u_89, ag_89⟩⟩, ⟨sz_89, ⟨by_89, ze_89⟩⟩⟩⟩⟩, ⟨⟨⟨⟨es_89, ⟨u_90, ag_90⟩⟩, ⟨sz_90, ⟨by_90, ze_90⟩⟩⟩, ⟨⟨es_90, ⟨u_91, ag_91⟩⟩, ⟨sz_91, ⟨by_91, ze_91⟩⟩⟩⟩, ⟨⟨⟨es_91, ⟨u_92, ag_92⟩⟩, ⟨sz_92, ⟨by_92, ze_92⟩⟩⟩, ⟨⟨es_92, ⟨u_93, ag_93⟩⟩, ⟨⟨sz_93, by_93⟩, ⟨ze_93, es_93⟩⟩⟩⟩⟩⟩, ⟨⟨⟨⟨⟨u_94, ⟨ag_94, sz_94⟩⟩, ⟨by_94, ⟨ze_94, es_94⟩⟩⟩, ⟨⟨u_95, ⟨ag_95, sz_95⟩⟩, ⟨by_95, ⟨ze_95, es_95⟩⟩⟩⟩, ⟨⟨⟨u_96, ⟨ag_96, sz_96⟩⟩, ⟨by_96, ⟨ze_96, es_96⟩⟩⟩, ⟨⟨u_97, ⟨ag_97, sz_97⟩⟩, ⟨by_97, ⟨ze_97, es_97⟩⟩⟩⟩⟩, ⟨⟨⟨⟨u_98, ⟨ag_98, sz_98⟩⟩, ⟨by_98, ⟨ze_98, es_98⟩⟩⟩, ⟨⟨u_99, ⟨ag_99, sz_99⟩⟩, ⟨by_99, ⟨ze_99, es_99⟩⟩⟩⟩, ⟨⟨⟨u_100, ⟨f_100_0, f_100_1⟩⟩, ⟨f_100_2, ⟨f_100_3, ag_100⟩⟩⟩, ⟨⟨sz_100, ⟨by_100, ze_100⟩⟩, ⟨⟨pl_100, es_100⟩, ⟨u_101, f_101_0⟩⟩⟩⟩⟩⟩⟩, ⟨⟨⟨⟨⟨⟨f_101_1, ⟨f_101_2, f_101_3⟩⟩, ⟨ag_101, ⟨sz_101, by_101⟩⟩⟩, ⟨⟨ze_101, ⟨pl_101, es_101⟩⟩, ⟨u_102, ⟨ag_102, sz_102⟩⟩⟩⟩, ⟨⟨⟨by_102, ⟨ze_102, es_102⟩⟩, ⟨u_103, ⟨f_103_0, ag_103⟩⟩⟩, ⟨⟨sz_103, ⟨by_103, ze_103⟩⟩, ⟨pl_103, ⟨es_103, u_104⟩⟩⟩⟩⟩, ⟨⟨⟨⟨f_104_0, ⟨ag_104, sz_104⟩⟩, ⟨by_104, ⟨ze_104, pl_104⟩⟩⟩, ⟨⟨es_104, ⟨u_105, ag_105⟩⟩, ⟨sz_105, ⟨by_105, ze_105⟩⟩⟩⟩, ⟨⟨⟨u8_105, ⟨es_105, u_106⟩⟩, ⟨ag_106, ⟨sz_106, by_106⟩⟩⟩, ⟨⟨ze_106, ⟨u8_106, es_106⟩⟩, ⟨⟨u_107, ag_107⟩, ⟨sz_107, by_107⟩⟩⟩⟩⟩⟩, ⟨⟨⟨⟨⟨ze_107, ⟨es_107, u_108⟩⟩, ⟨ag_108, ⟨sz_108, by_108⟩⟩⟩, ⟨⟨ze_108, ⟨es_108, u_109⟩⟩, ⟨ag_109, ⟨sz_109, by_109⟩⟩⟩⟩, ⟨⟨⟨ze_109, ⟨es_109, u_110⟩⟩, ⟨f_110_0, ⟨f_110_1, f_110_2⟩⟩⟩, ⟨⟨f_110_3, ⟨f_110_4, f_110_5⟩⟩, ⟨⟨f_110_6, f_110_7⟩, ⟨f_110_8, f_110_9⟩⟩⟩⟩⟩, ⟨⟨⟨⟨f_110_10, ⟨ag_110, sz_110⟩⟩, ⟨by_110, ⟨ze_110, pl_110⟩⟩⟩, ⟨⟨es_110, ⟨u_111, f_111_0⟩⟩, ⟨f_111_1, ⟨f_111_2, f_111_3⟩⟩⟩⟩, ⟨⟨⟨f_111_4, ⟨f_111_5, f_111_6⟩⟩, ⟨f_111_7, ⟨f_111_8, f_111_9⟩⟩⟩, ⟨⟨f_111_10, ⟨ag_111, sz_111⟩⟩, ⟨⟨by_111, ze_111⟩, ⟨pl_111, es_111⟩⟩⟩⟩⟩⟩⟩⟩⟩⟩
end Go.Abs
/- Abs28: blocks of the base that are written; what else stays. Conditions: none. -/
set_option maxRecDepth 100000
set_option linter.unusedVariables false
namespace Go.Abs
section
variable {h H X : AHeap} {p q i : Nat} {v w : Option AObj} {k : Blk}
theorem set_base (hp : p < h.length) : (h ++ X).set p v = h.set p v ++ X := List.set_append_left _ _ hp
theorem blk_setB (hp : p < h.length) : blkA (h.set p (some (.cells k)) ++ X) p = some k := by
  unfold blkA; rw [List.getElem?_append_left (by rw [List.length_set]; exact hp), List.getElem?_set_self hp]
theorem blk_setB0 (hp : p < h.length) : blkA (h.set p (some (.cells k))) p = some k := by
  unfold blkA; rw [List.getElem?_set_self hp]
theorem blk_setN (hn : q ≠ p) : blkA (h.set p v ++ X) q = blkA (h ++ X) q := by
  unfold blkA
  by_cases hq : q < h.length
  · rw [List.getElem?_append_left (by rw [List.length_set]; exact hq), List.getElem?_append_left hq, List.getElem?_set_ne (fun h => hn h.symm)]
  · rw [List.getElem?_append_right (by rw [List.length_set]; omega), List.getElem?_append_right (by omega), List.length_set]
theorem blk_setN0 (hn : q ≠ p) : blkA (h.set p v) q = blkA h q := by
  unfold blkA; rw [List.getElem?_set_ne (fun h => hn h.symm)]
theorem set_atH (hl : H.length = h.length) : (H ++ X).set (h.length + i) v = H ++ X.set i v := by rw [← hl]; exact set_at
theorem set_atH0 (hl : H.length = h.length) : (H ++ X).set h.length v = H ++ X.set 0 v := by rw [← hl]; exact set_at0
theorem blk_atH (hl : H.length = h.length) : blkA (H ++ X) (h.length + i) = nth X i := by rw [← hl]; exact blkA_at
theorem blk_atH0 (hl : H.length = h.length) : blkA (H ++ X) h.length = nth X 0 := by rw [← hl]; exact blkA_at0
theorem set_twice : (h.set p v).set p w = h.set p w := List.set_set ..
end
section
variable {P : Program} {h : AHeap} {t : TypeId} {b o n m : Nat} {lo hi : Option Value} {K : Value → Prop}
theorem slice_nil : someP (sliceA P t (.slice none 0 0) lo hi h) K = someP (sliceT (P.underlying t)) fun e => someP (sizeA P e) fun _ => someP (boundsA 0 lo hi) fun _ => K (.slice none 0 0) := by
  unfold sliceA
  cases P.underlying t with
  | none => simp [someP_n, sliceT]
  | some d =>
    cases d with
    | slice e =>
      simp only [sliceT, someP_s]
      cases sizeA P e <;> cases boundsA 0 lo hi <;> simp [someP_n, someP_s]
    | _ => simp [someP_n, sliceT]
theorem slice_some : someP (sliceA P t (.slice (some ⟨b, o, none⟩) n m) lo hi h) K = someP (sliceT (P.underlying t)) fun e => someP (boundsA n lo hi) fun p => someP (sizeA P e) fun size => someP (blkA h b) fun k => k.esz = size ∧ K (.slice (some ⟨b, o + p.1 * size, none⟩) (p.2 - p.1) (p.2 - p.1)) := by
  unfold sliceA
  cases P.underlying t with
  | none => simp [someP_n, sliceT]
  | some d =>
    cases d with
    | slice e =>
      simp only [sliceT, someP_s]
      cases boundsA n lo hi with
      | none => simp [someP_n]
      | some p =>
        cases sizeA P e with
        | none => simp [someP_n, someP_s]
        | some size =>
          cases blkA h b with
          | none => simp [someP_n, someP_s]
          | some k => simp [someP_s, sP_ite]
    | _ => simp [someP_n, sliceT]
end
/-! ### regions that draw their order -/
def flexS (ops : Array Oper) (k : Nat) : Option (List (TypeId × Operand)) :=
  ((List.range ops.size).filter fun j => !(j == k || pureAt ops j || (if j < k then ((ancA ops.toList []).getD k []).contains j else ((ancA ops.toList []).getD j []).contains k))).mapM fun j =>
    if (decide (j < k) && looksFree ops j k) = true then match ops[j]? with
      | some o => match o.op with
        | .load t x => some (t, x)
        | _ => none
      | none => none
    else none
theorem mapM_mem {α β : Type} {f : α → Option β} : ∀ {l : List α} {r : List β}, l.mapM f = some r → ∀ x, x ∈ l → ∃ y, f x = some y ∧ y ∈ r
  | [], _, _, x, hx => by simp at hx
  | a :: l, r, h, x, hx => by
    simp only [List.mapM_cons] at h
    cases ha : f a with
    | none => simp [ha] at h
    | some b =>
      cases hl : l.mapM f with
      | none => simp [ha, hl] at h
      | some s =>
        simp [ha, hl] at h
        subst h
        rcases List.mem_cons.1 hx with rfl | hx
        · exact ⟨b, ha, by simp⟩
        · obtain ⟨y, h1, h2⟩ := mapM_mem hl x hx
          exact ⟨y, h1, by simp [h2]⟩
section
variable {c : Ctx} {ops : Array Oper} {k : Nat} {fr : AFrame} {h h' : AHeap} {op : Op} {p : Prop}
theorem flex_of {L : List (TypeId × Operand)} (hs : flexS ops k = some L) (hL : ∀ tx, tx ∈ L → ∃ a, evA c fr tx.2 = some a ∧ loadA c.P h tx.1 a = loadA c.P h' tx.1 a) : flexA c ops (ancA ops.toList []) k fr h h' = true := by
  refine List.all_eq_true.2 fun j hj => ?_
  by_cases hb : (j == k || pureAt ops j || (if j < k then ((ancA ops.toList []).getD k []).contains j else ((ancA ops.toList []).getD j []).contains k)) = true
  · rw [hb]; rfl
  · obtain ⟨tx, h1, h2⟩ := mapM_mem hs j (List.mem_filter.2 ⟨hj, by rw [Bool.not_eq_true] at hb; rw [hb]; rfl⟩)
    obtain ⟨a, h3, h4⟩ := hL tx h2
    split at h1
    · rename_i hc
      simp only [Bool.and_eq_true] at hc
      split at h1
      · rename_i o ho
        split at h1
        · rename_i t x hop
          cases h1
          simp only at h3 h4
          simp only [hc.1, hc.2, Bool.true_and, ho, hop, h3, h4, decide_true, Bool.or_true]
        · cases h1
      · cases h1
    · cases h1
theorem DQ_mt (hm : mutA ops (ancA ops.toList []) k = true) : DQ op (mtF c ops k fr h h') h h' p = p := DQ_m (by unfold mtF; rw [hm]; rfl)
theorem DQ_fx {L : List (TypeId × Operand)} (hs : flexS ops k = some L) (hL : ∀ tx, tx ∈ L → ∃ a, evA c fr tx.2 = some a ∧ loadA c.P h tx.1 a = loadA c.P h' tx.1 a) (hp : p) : DQ op (mtF c ops k fr h h') h h' p := by
  rw [DQ_m]
  · exact hp
  · unfold mtF; rw [flex_of hs hL, Bool.or_true]
theorem DQ_fx1 {t : TypeId} {u : Tmp} {v : Value} (hs : flexS ops k = some [(t, .tmp u)]) (hv : fget fr u = v) (hl : loadA c.P h t v = loadA c.P h' t v) (hp : p) : DQ op (mtF c ops k fr h h') h h' p :=
  DQ_fx hs (fun tx htx => by rw [List.mem_singleton] at htx; subst htx; exact ⟨v, congrArg some hv, hl⟩) hp
end
/-! ### nil -/
def ptrT : Option TypeDesc → Bool
  | some (.pointer _) => true
  | _ => false
theorem ptT {e : TypeId} : ptrT (some (.pointer e)) = true := rfl
section
variable {P : Program} {t : TypeId} {cx : Bool} {a : Option Addr} {n m : Nat}
theorem nil_eqP (ht : ptrT (P.underlying t) = true) : binA P .eql t cx true (.pointer a) (.pointer none) = some (.bool a.isNone) := by
  cases hu : P.underlying t with
  | none => rw [hu] at ht; simp [ptrT] at ht
  | some d =>
    cases d <;> rw [hu] at ht <;> simp [ptrT] at ht
    cases a <;> simp [binA, eqNilA, nilType, hu, nilA]
theorem nil_neP (ht : ptrT (P.underlying t) = true) : binA P .neq t cx true (.pointer a) (.pointer none) = some (.bool (!a.isNone)) := by
  cases hu : P.underlying t with
  | none => rw [hu] at ht; simp [ptrT] at ht
  | some d =>
    cases d <;> rw [hu] at ht <;> simp [ptrT] at ht
    cases a <;> simp [binA, eqNilA, nilType, hu, nilA]
theorem nil_eqS {e : TypeId} (ht : sliceT (P.underlying t) = some e) : binA P .eql t cx true (.slice a n m) (.slice none 0 0) = some (.bool a.isNone) := by
  cases hu : P.underlying t with
  | none => rw [hu] at ht; simp [sliceT] at ht
  | some d =>
    cases d <;> rw [hu] at ht <;> simp [sliceT] at ht
    cases a <;> simp [binA, eqNilA, nilType, hu, nilA]
theorem nil_neS {e : TypeId} (ht : sliceT (P.underlying t) = some e) : binA P .neq t cx true (.slice a n m) (.slice none 0 0) = some (.bool (!a.isNone)) := by
  cases hu : P.underlying t with
  | none => rw [hu] at ht; simp [sliceT] at ht
  | some d =>
    cases d <;> rw [hu] at ht <;> simp [sliceT] at ht
    cases a <;> simp [binA, eqNilA, nilType, hu, nilA]
end
/-- A heap behind another: blocks outside F stand as they were; the blocks of F' are of F or new. -/
structure Upd (h h' : AHeap) (F F' : List Nat) : Prop where
  len : h.length ≤ h'.length
  same : ∀ q, q < h.length → q ∉ F → h'[q]? = h[q]?
  own : ∀ q, q ∈ F' → q ∈ F ∨ h.length ≤ q
theorem Upd.refl (h : AHeap) (F : List Nat) : Upd h h F F := ⟨Nat.le_refl _, fun _ _ _ => rfl, fun _ hq => .inl hq⟩
theorem Upd.trans {a b c : AHeap} {F G K : List Nat} (x : Upd a b F G) (y : Upd b c G K) : Upd a c F K := by
  refine ⟨Nat.le_trans x.len y.len, fun q hq hn => ?_, fun q hq => ?_⟩
  · rw [y.same q (Nat.lt_of_lt_of_le hq x.len) (fun hg => ?_), x.same q hq hn]
    rcases x.own q hg with h | h
    · exact hn h
    · omega
  · rcases y.own q hq with h | h
    · exact x.own q h
    · exact .inr (Nat.le_trans x.len h)
theorem Upd.blk {h h' : AHeap} {F F' : List Nat} (u : Upd h h' F F') {q : Nat} {k : Blk} (hq : q ∉ F) (hb : blkA h q = some k) : blkA h' q = some k := by
  have hl := blkA_lt hb
  unfold blkA at hb ⊢
  rw [u.same q hl hq]; exact hb
theorem Upd.ext {h h' : AHeap} (F : List Nat) (e : Ext h h') : Upd h h' F F := ⟨e.len, fun q hq _ => e.get hq, fun _ hq => .inl hq⟩
theorem Upd.app (h g : AHeap) (F : List Nat) : Upd h (h ++ g) F F := Upd.ext F (.app h g)
theorem Upd.set {h h' : AHeap} {F F' : List Nat} (u : Upd h h' F F') {b : Nat} {v : Option AObj} (hb : b ∈ F) : Upd h (h'.set b v) F F' :=
  ⟨by rw [List.length_set]; exact u.len, fun q hq hn => by
    have hne : b ≠ q := (fun e => by subst e; exact hn hb)
    rw [List.getElem?_set_ne hne]; exact u.same q hq hn, u.own⟩
theorem Upd.setNew {h h' : AHeap} {F F' : List Nat} (u : Upd h h' F F') {b : Nat} {v : Option AObj} (hb : h.length ≤ b) : Upd h (h'.set b v) F F' :=
  ⟨by rw [List.length_set]; exact u.len, fun q hq hn => by
    have hne : b ≠ q := by omega
    rw [List.getElem?_set_ne hne]; exact u.same q hq hn, u.own⟩
theorem Upd.more {h h' : AHeap} {F F' : List Nat} (u : Upd h h' F F') (g : AHeap) : Upd h (h' ++ g) F F' :=
  ⟨by rw [List.length_append]; exact Nat.le_trans u.len (Nat.le_add_right _ _), fun q hq hn => by rw [List.getElem?_append_left (Nat.lt_of_lt_of_le hq u.len)]; exact u.same q hq hn, u.own⟩
theorem Upd.to {h h' : AHeap} {F F' G : List Nat} (u : Upd h h' F F') (hg : ∀ q, q ∈ G → q ∈ F ∨ h.length ≤ q) : Upd h h' F G := ⟨u.len, u.same, hg⟩
theorem Upd.from {h h' : AHeap} {F F' G : List Nat} (u : Upd h h' F F') (hg : ∀ q, q ∈ F → q ∈ G) : Upd h h' G F' := ⟨u.len, fun q hq hn => u.same q hq (fun hf => hn (hg q hf)), fun q hq => (u.own q hq).imp (hg q) id⟩
end Go.Abs
/- Abs29: the rules, in bundles. Conditions: none. -/
set_option maxRecDepth 100000
set_option linter.defProp false
namespace Go.Abs
noncomputable def RP := And.intro @RWn (And.intro @RWc (And.intro @RWg' (And.intro @PWn (And.intro @PWs (And.intro @CW_eq (And.intro @CB_bool (And.intro @GW_t (And.intro @GW_f (And.intro @OW_move (And.intro @OW_assign (And.intro @OW_pick (And.intro @OW_nilCheck (And.intro @OW_bin (And.intro @OW_un (And.intro @OW_makeFunc (And.intro @OW_fieldAddr (And.intro @OW_field (And.intro @OW_indexAddr (And.intro @OW_index (And.intro @OW_extract (And.intro @OW_build (And.intro @OW_len (And.intro @OW_min (And.intro @OW_max (And.intro @OW_load (And.intro @OW_store (And.intro @OW_alloc (And.intro @OW_box (And.intro @OW_convert (And.intro @OW_slice (And.intro @OW_buildSlice (And.intro @OW_makeSlice (And.intro @OW_call (And.intro @OW_append (And.intro @AW_skip (And.intro @AW_ret (And.intro @AW_exit (And.intro @AW_reg (And.intro @AW_cond (And.intro @AW_block (And.intro @tQn (And.intro @tQe (And.intro @tQr (And.intro @bQn (And.intro @bQe (And.intro @bQr (And.intro @rQn (And.intro @rQr (And.intro @AW_draw (And.intro @RWDn (And.intro @RWDc (And.intro @RWDg' (And.intro @DQ_move (And.intro @DQ_assign (And.intro @DQ_pick (And.intro @DQ_nilCheck (And.intro @DQ_bin (And.intro @DQ_un (And.intro @DQ_makeFunc (And.intro @DQ_makeIface (And.intro @DQ_fieldAddr (And.intro @DQ_field (And.intro @DQ_indexAddr (And.intro @DQ_index (And.intro @DQ_extract (And.intro @DQ_build (And.intro @DQ_len (And.intro @DQ_min (And.intro @DQ_max (And.intro @DQ_load (And.intro @DQ_convert (And.intro @DQ_slice (And.intro @DQ_alloc (And.intro @DQ_box (And.intro @DQ_buildSlice (And.intro @DQ_makeSlice (And.intro @DQ_range (And.intro @AW_seq (And.intro @DQ_pre (@DQ_mt))))))))))))))))))))))))))))))))))))))))))))))))))))))))))))))))))))))))))))))))
noncomputable def RQ := And.intro @gsome (And.intro @someP_s (And.intro @someP_n (And.intro @evA_tmp (And.intro @evA_int (And.intro @evA_str (And.intro @evA_bool (And.intro @evA_nilp (And.intro @evA_nils (And.intro @evA_nilf (And.intro @evA_nili (And.intro @evA_func (And.intro @evL_n (And.intro @evL_c (And.intro @evP_n (And.intro @evP_c (And.intro @b_add (And.intro @b_sub (And.intro @b_mul (And.intro @b_quo (And.intro @b_rem (And.intro @b_and32 (And.intro @b_or32 (And.intro @b_xor32 (And.intro @b_and8 (And.intro @b_or8 (And.intro @b_xor8 (And.intro @ofInt32 (And.intro @b_eql (And.intro @b_neq (And.intro @b_lss (And.intro @b_leq (And.intro @b_gtr (And.intro @b_geq (And.intro @bb_eql (And.intro @bb_neq (And.intro @un_not (And.intro @un_neg (And.intro @un_xor32 (And.intro @conv_int (And.intro @conv_int2 (And.intro @res_n (And.intro @res_t (And.intro @res_c (And.intro @one1 (And.intro @one0 (And.intro @one2 (And.intro @fget_set (And.intro @fget_cons0 (And.intro @fget_consS (And.intro @Int.toNat_natCast (And.intro @Nat.mul_one (And.intro @Nat.zero_add (And.intro @Nat.add_zero (And.intro @and_self (And.intro @true_and (And.intro @and_true (And.intro @decide_eq_true_eq (And.intro @Bool.false_eq_true (And.intro @List.toList_toArray.{0} (And.intro @List.getElem?_toArray.{0} (And.intro @List.getElem?_cons_zero.{0} (And.intro @List.getElem?_cons_succ.{0} (And.intro @List.nil_append.{0} (And.intro @List.append_nil.{0} (And.intro @List.cons_append.{0} (And.intro @sP_ite (And.intro @sP_ite2 (And.intro @sP_map (And.intro @sP_bind (And.intro @nth_0 (And.intro @nth_S (And.intro @nth_g (And.intro @nth_g0 (And.intro @loadA_eq (And.intro @loadK_1 (And.intro @loadK_n (And.intro @storeA_eq (And.intro @storeK_s (And.intro @put_n (And.intro @put_c (And.intro @c_int (And.intro @c_str (And.intro @c_bool (And.intro @c_ptr (And.intro @c_sl (And.intro @c_fn (And.intro @c_nf (And.intro @c_ni (And.intro @c_agg (And.intro @o_int (And.intro @o_str (And.intro @o_bool (And.intro @o_ptr (And.intro @o_sl (And.intro @o_fn (And.intro @o_nf (And.intro @o_ni (And.intro @all_n (And.intro @all_c (And.intro @all_a (And.intro @build_s (And.intro @fillL_n (And.intro @fillL_c (And.intro @bslice (And.intro @mslice (And.intro @app_nil (And.intro @app_some (And.intro @app_type (And.intro @more_nil (And.intro @more_some (And.intro @more_str (And.intro @takeA_eq (And.intro @str_mk (And.intro @str_size (And.intro @str_data (And.intro @str_app (And.intro @ss_add (And.intro @ss_eql (And.intro @ss_neq (And.intro @bd_nn (And.intro @bd_ni (And.intro @bd_in (And.intro @bd_ii (And.intro @slice_str (And.intro @index_str (And.intro @len_str (And.intro @len_sl' (And.intro @cv_sb (And.intro @idx_sl (And.intro @slT (And.intro @stT (And.intro @part_1 (And.intro @part_n (And.intro @List.append_assoc.{0} (And.intro @List.length_append.{0} (And.intro @List.length_cons.{0} (And.intro @List.length_nil.{0} (And.intro @List.set_cons_zero.{0} (And.intro @List.set_cons_succ.{0} (And.intro @List.getElem?_nil.{0} (And.intro @List.size_toArray.{0} (And.intro @List.drop_zero.{0} (And.intro @List.drop_succ_cons.{0} (And.intro @List.take_succ_cons.{0} (And.intro @List.take_zero.{0} (And.intro @List.drop_nil.{0} (And.intro @List.take_nil.{0} (And.intro @Bool.and_true (And.intro @Bool.true_and (And.intro @Bool.and_self (And.intro @not_true_eq_false (And.intro @not_false_eq_true (And.intro @Nat.le_refl (And.intro @Option.isSome_some.{0} (And.intro @List.length_replicate.{0} (And.intro @List.length_map.{0, 0} (And.intro @Option.getD_some.{0} (And.intro @wrap64 (And.intro @strOf_map (And.intro @shl_1 (And.intro @shl_2 (And.intro @shl_3 (And.intro @shl_4 (And.intro @shl_8 (And.intro @shl_16 (And.intro @shl_24 (And.intro @shr_1 (And.intro @shr_2 (And.intro @shr_3 (And.intro @shr_4 (And.intro @shr_8 (And.intro @and_1 (And.intro @and_7 (And.intro @b_or64 (And.intro @decide_true (And.intro @decide_false (And.intro @Bool.or_true (And.intro @Bool.or_false (And.intro @Bool.not_true (And.intro @Bool.not_false (And.intro @Bool.not_not (And.intro @b_shr32l (And.intro @Int.natCast_nonneg (And.intro @takeMap (And.intro @bytesV_str (And.intro @all_byteV (And.intro @decide_not (And.intro @Nat.sub_zero (And.intro @Int.sub_zero (And.intro @Int.zero_add (And.intro @Int.add_zero (And.intro @takeDrop (And.intro @takeAll (And.intro @cast0 (And.intro @cast1 (And.intro @rep0 (And.intro @rep1 (And.intro @rep2 (And.intro @rep3 (And.intro @rep4 (And.intro @nth_gs (And.intro @nth_gs0 (And.intro @set_gs (And.intro @set_gs0 (And.intro @List.length_set.{0} (And.intro @set_base (And.intro @blk_setB (And.intro @blk_setB0 (And.intro @blk_setN (And.intro @blk_setN0 (And.intro @set_atH (And.intro @set_atH0 (And.intro @blk_atH (And.intro @blk_atH0 (And.intro @set_twice (And.intro @slice_nil (And.intro @slice_some (And.intro @nil_eqP (And.intro @nil_neP (And.intro @ptT (And.intro @Option.isNone_none.{0} (And.intro @Option.isNone_some.{0} (And.intro @or_true (And.intro @true_or (And.intro @or_false (@false_or))))))))))))))))))))))))))))))))))))))))))))))))))))))))))))))))))))))))))))))))))))))))))))))))))))))))))))))))))))))))))))))))))))))))))))))))))))))))))))))))))))))))))))))))))))))))))))))))))))))))))))))))))))))))))))))))))
end Go.Abs
/- Abs30: a function that has a contract of its own: values without addresses go in and come out, what lay stays. Conditions: none. -/
set_option maxRecDepth 100000
namespace Go.Abs
open Go.RowKit
theorem Post.of_below {G : Nat → Option Nat} {B : Nat} {E : Env} {h : AHeap} {w w' : World} (s : Sim G B E h w) (b : Below w.heap.size w w') : Post G B E E h h w w' := by
  have hk : ∀ (id : Nat) (o : AObj) e, h[id]? = some (some o) → E id = some e → w'.heap[e.blk]? = w.heap[e.blk]? := fun id o e h1 h2 => b.block _ (s.obj id o e h1 h2).lt
  refine ⟨Env.le.refl E, Nat.le_refl _, fun id hid => absurd rfl hid, ⟨fun id o e h1 h2 => (s.obj id o e h1 h2).mono (Env.le.refl E) (hk id o e h1 h2), s.low, s.apart, Nat.le_trans s.base b.size, s.glob⟩, b.os, b.tape, b.output, b.size, fun x hx _ => b.block x hx, fun x hx => .inl hx, fun id e h1 h2 => ?_⟩
  rw [h2] at h1; cases h1
def pureP (spec : List Value → Option Value) : List Value → AHeap → Option (Value × AHeap) := fun args h => (spec args).map fun v => (v, h)
/-- What is asked of a function that is known by its values alone. -/
def PureOK (P : Program) (f : FuncId) (spec : List Value → Option Value) : Prop := ∀ args v, spec args = some v → args.all (plainV 3) = true ∧ plainV 3 v = true ∧ ∀ w : World, CallOK P f args.toArray w fun e w' => e = .returned v ∧ Below w.heap.size w w'
theorem LR.plain_eq {E : Env} : ∀ {xs ys : List Value}, xs.all (plainV 3) = true → LR E xs ys → ys = xs
  | [], [], _, _ => rfl
  | [], _ :: _, _, h => absurd h.1 (by simp)
  | _ :: _, [], _, h => absurd h.1 (by simp)
  | x :: xs, y :: ys, hp, h => by
    simp only [List.all_cons, Bool.and_eq_true] at hp
    obtain ⟨h1, h2⟩ := h.uncons
    rw [VR.plain_eq 3 hp.1 h1, LR.plain_eq hp.2 h2]
theorem CallOK.mono {P : Program} {f : FuncId} {args : Array Value} {w : World} {R R' : Ending → World → Prop} (h : CallOK P f args w R) (hr : ∀ e w', R e w' → R' e w') : CallOK P f args w R' := by
  rcases h with ⟨h1, h2⟩ | ⟨v, w', h1, h2⟩
  · exact .inl ⟨h1, h2.mono hr⟩
  · exact .inr ⟨v, w', h1, hr _ _ h2⟩
theorem pure_len (spec : List Value → Option Value) : CallLen fun _ => pureP spec := by
  intro f args h v h' he
  simp only [pureP, Option.map_eq_some_iff] at he
  obtain ⟨u, _, hu⟩ := he
  cases hu
  exact Nat.le_refl _
theorem pure_ok {c : Ctx} {B : Nat} {f : FuncId} {spec : List Value → Option Value} (hs : PureOK c.P f spec) : ∀ args h v h', pureP spec args h = some (v, h') → ∀ E w args', Sim c.G B E h w → LR E args args' → Free E h h' →
    CallOK c.P f args'.toArray w fun e w' => ∃ E' v', e = .returned v' ∧ Post c.G B E E' h h' w w' ∧ VR E' v v' := by
  intro args h v h' he E w args' s hl _
  simp only [pureP, Option.map_eq_some_iff] at he
  obtain ⟨u, hu, hv⟩ := he
  cases hv
  obtain ⟨h1, h2, h3⟩ := hs args v hu
  rw [LR.plain_eq h1 hl]
  exact (h3 w).mono fun e w' ⟨he, hb⟩ => ⟨E, v, he, Post.of_below s hb, VR.plain E 3 v h2⟩
/-- A call of such a function. -/
theorem FW_prim {c : Ctx} {f : FuncId} {p : List Value → AHeap → Option (Value × AHeap)} {args : List Value} {h h' : AHeap} {v : Value} {Q : Value → AHeap → Prop} (hp : c.prim f = some p) (he : p args h = some (v, h')) (hq : Q v h') : FW c f args h Q := by
  refine ⟨v, h', evU_of (k := 1) ?_, hq⟩
  simp only [evF, hp, he]
theorem Quiet.prim {c : Ctx} {f : FuncId} {spec : List Value → Option Value} {args : List Value} {h : AHeap} {v : Value} (hp : c.prim f = some (pureP spec)) (he : spec args = some v) : Quiet c f args h v :=
  FW_prim hp (by simp only [pureP, he, Option.map_some]) ⟨rfl, Ext.refl _⟩
theorem callOK_of {P : Program} {f : FuncId} {fn : Func} {cd : Code} {args : Array Value} {w : World} {R : Ending → World → Prop} (hf : P.funcs[f]? = some fn) (hb : fn.body = some cd) (hn : (fn.name == "runtime.NumGoroutine") = false) (hc : Calls P f args w R) : CallOK P f args w R := by
  refine .inl ⟨?_, hc⟩
  have h1 : fn.name ≠ "runtime.NumGoroutine" := by simpa using hn
  simp [callFunc, hf, h1, hb, mark]
end Go.Abs
/- MxS: ends of a multiplexer as they lie in the abstract heap. Conditions: none. -/
set_option maxRecDepth 100000
set_option linter.unusedVariables false
namespace Go.Abs
open Go.Proofs
def repN (l : List UInt8) : Nat → List UInt8
  | 0 => []
  | c + 1 => l ++ repN l c
/-- strings.Repeat, of short strings, ten times. -/
def repSpec : List Value → Option Value
  | [.string s, .int .i64 10] => if s.size ≤ 1000 then some (.string ⟨(repN s.data.toList 10).toArray⟩) else none
  | _ => none
@[reducible] noncomputable def cx : Ctx := { P := Try.prog, G := fun _ => none, prim := fun f => if f = 24 then some (pureP repSpec) else none }
structure Strm where
  id : Nat
  head : List UInt8
  out : List UInt8
  inn : List UInt8
  window : Nat
  room : Nat
  taken : Nat
  ends : Bool
  ended : Bool
  over : Bool
  reset : Bool
structure MuxS where
  first : Bool
  window : Nat
  next : Nat
  streams : List Strm
  control : List UInt8
  ready : List UInt8
  turn : Nat
  got : List UInt8
  broken : Bool
def strmC (s : Strm) : List Value := [.int .i64 s.id, .string (str s.head), .string (str s.out), .string (str s.inn), .int .i64 s.window, .int .i64 s.room, .int .i64 s.taken, .bool s.ends, .bool s.ended, .bool s.over, .bool s.reset]
def slA (sb : Option Nat) : Option Addr := sb.map fun b => ⟨b, 0, none⟩
def muxC (m : MuxS) (sl : Value) : List Value := [.bool m.first, .int .i64 m.window, .int .i64 m.next, sl, .string (str m.control), .string (str m.ready), .int .i64 m.turn, .string (str m.got), .bool m.broken]
def ptrC (b : Nat) : Value := .pointer (some ⟨b, 0, none⟩)
/-- An end at p: its streams' slice, the blocks of its streams. -/
structure MuxAt (h : AHeap) (p : Nat) (sb : Option Nat) (ids : List Nat) (m : MuxS) : Prop where
  top : blkA h p = some ⟨muxC m (.slice (slA sb) ids.length ids.length), 9, false⟩
  sl : (sb = none ∧ ids = []) ∨ ∃ b, sb = some b ∧ blkA h b = some ⟨ids.map ptrC, 1, false⟩
  len : ids.length = m.streams.length
  str : ∀ (i : Nat) s b, m.streams[i]? = some s → ids[i]? = some b → blkA h b = some ⟨strmC s, 11, false⟩
  nd : (p :: (sb.toList ++ ids)).Nodup
/-- The blocks of an end. -/
def foot (p : Nat) (sb : Option Nat) (ids : List Nat) : List Nat := p :: (sb.toList ++ ids)
section
variable {h : AHeap} {p : Nat} {sb : Option Nat} {ids : List Nat} {m : MuxS}
theorem MuxAt.lt (a : MuxAt h p sb ids m) : p < h.length := blkA_lt a.top
theorem MuxAt.fl (a : MuxAt h p sb ids m) : ∀ q, q ∈ foot p sb ids → q < h.length := by
  intro q hq
  unfold foot at hq
  rcases List.mem_cons.1 hq with rfl | hq
  · exact a.lt
  rcases List.mem_append.1 hq with hq | hq
  · rcases a.sl with ⟨h1, _⟩ | ⟨b, h1, h2⟩
    · rw [h1] at hq; simp at hq
    · rw [h1] at hq; simp at hq; subst hq; exact blkA_lt h2
  · obtain ⟨i, hi⟩ := List.getElem?_of_mem hq
    have hlt := (List.getElem?_eq_some_iff.1 hi).1
    obtain ⟨s, hs⟩ : ∃ s, m.streams[i]? = some s := ⟨_, List.getElem?_eq_getElem (by rw [← a.len]; exact hlt)⟩
    exact blkA_lt (a.str i s q hs hi)
theorem MuxAt.same {h' : AHeap} (a : MuxAt h p sb ids m) (hs : ∀ q, q ∈ foot p sb ids → h'[q]? = h[q]?) : MuxAt h' p sb ids m := by
  have key : ∀ q k, q ∈ foot p sb ids → blkA h q = some k → blkA h' q = some k := by
    intro q k hq hb; unfold blkA at hb ⊢; rw [hs q hq]; exact hb
  refine ⟨key p _ (by simp [foot]) a.top, ?_, a.len, fun i s b h1 h2 => key b _ (by have := List.mem_of_getElem? h2; simp [foot, this]) (a.str i s b h1 h2), a.nd⟩
  rcases a.sl with h1 | ⟨b, h1, h2⟩
  · exact .inl h1
  · exact .inr ⟨b, h1, key b _ (by simp [foot, h1]) h2⟩
theorem MuxAt.ext {h' : AHeap} (a : MuxAt h p sb ids m) (e : Ext h h') : MuxAt h' p sb ids m := a.same fun q hq => e.get (a.fl q hq)
theorem MuxAt.app (a : MuxAt h p sb ids m) (g : AHeap) : MuxAt (h ++ g) p sb ids m := a.ext (.app h g)
/-- Another end's change leaves it as it was. -/
theorem MuxAt.upd {h' : AHeap} {F F' : List Nat} (a : MuxAt h p sb ids m) (u : Upd h h' F F') (hd : ∀ q, q ∈ foot p sb ids → q ∉ F) : MuxAt h' p sb ids m := a.same fun q hq => u.same q (a.fl q hq) (hd q hq)
theorem MuxAt.setTop (a : MuxAt h p sb ids m) {m' : MuxS} (hm : m'.streams = m.streams) : MuxAt (h.set p (some (.cells ⟨muxC m' (.slice (slA sb) ids.length ids.length), 9, false⟩))) p sb ids m' := by
  have hn := a.nd
  rw [List.nodup_cons] at hn
  have ne : ∀ q, q ∈ sb.toList ++ ids → q ≠ p := fun q hq e => hn.1 (e ▸ hq)
  refine ⟨blk_setB0 a.lt, ?_, by rw [hm]; exact a.len, fun i s b h1 h2 => ?_, a.nd⟩
  · rcases a.sl with h1 | ⟨b, h1, h2⟩
    · exact .inl h1
    · exact .inr ⟨b, h1, by rw [blk_setN0 (ne b (by simp [h1]))]; exact h2⟩
  · rw [blk_setN0 (ne b (by have := List.mem_of_getElem? h2; simp [this]))]
    rw [hm] at h1
    exact a.str i s b h1 h2
theorem MuxAt.ne (a : MuxAt h p sb ids m) {i b : Nat} (hi : ids[i]? = some b) : b ≠ p := by
  have hn := a.nd
  rw [List.nodup_cons] at hn
  intro e
  exact hn.1 (by rw [← e]; have := List.mem_of_getElem? hi; simp [this])
theorem MuxAt.setStr (a : MuxAt h p sb ids m) {i b : Nat} (hi : ids[i]? = some b) (s' : Strm) : MuxAt (h.set b (some (.cells ⟨strmC s', 11, false⟩))) p sb ids { m with streams := m.streams.set i s' } := by
  have hn := a.nd
  rw [List.nodup_cons] at hn
  have hbm := List.mem_of_getElem? hi
  have hbl : b < h.length := a.fl b (by simp [foot, hbm])
  have hpb : p ≠ b := fun e => hn.1 (by rw [e]; simp [hbm])
  have hn2 := hn.2
  rw [List.nodup_append] at hn2
  refine ⟨by rw [blk_setN0 hpb]; exact a.top, ?_, by simp only [List.length_set]; exact a.len, fun j s c h1 h2 => ?_, a.nd⟩
  · rcases a.sl with h1 | ⟨c, h1, h2⟩
    · exact .inl h1
    · refine .inr ⟨c, h1, ?_⟩
      rw [blk_setN0 (hn2.2.2 c (by simp [h1]) b hbm)]; exact h2
  · simp only at h1
    by_cases hij : i = j
    · subst hij
      rw [hi] at h2; cases h2
      rw [List.getElem?_set_self (by rw [← a.len]; exact (List.getElem?_eq_some_iff.1 hi).1)] at h1
      cases h1
      exact blk_setB0 hbl
    · rw [List.getElem?_set_ne hij] at h1
      have hcb : c ≠ b := by
        intro e
        subst e
        have h3 := (List.getElem?_inj (List.getElem?_eq_some_iff.1 hi).1 hn2.2.1).1 (hi.trans h2.symm)
        exact hij h3
      rw [blk_setN0 hcb]
      exact a.str j s c h1 h2
end
end Go.Abs
/- Mx1: the walks of the multiplexer: looking for streams, frames. Conditions: none. -/
set_option maxRecDepth 100000
set_option linter.unusedSimpArgs false
set_option linter.unusedVariables false
namespace Go.Abs
open Go.Proofs
theorem tm2 (a : Nat) : ((a : Nat) : Int).tmod 2 = ((a % 2 : Nat) : Int) := (Int.ofNat_tmod a 2).symm
def ownS (m : MuxS) (id : Nat) : Bool := decide (id % 2 = 1) == m.first
theorem own_q (m : MuxS) (id : Nat) {h : AHeap} {p : Nat} {sb : Option Nat} {ids : List Nat} (a : MuxAt h p sb ids m) : Quiet cx 40 [ptrC p, .int .i64 id] h (.bool (ownS m id)) := by
  unfold ptrC
  refine FW_f Try.func40 rfl (by decide +kernel) ?_
  have e : decide (((id % 2 : Nat) : Int) = 1) = decide (id % 2 = 1) := by congr 1; exact propext (by omega)
  simp -dsimp -implicitDefEqProofs (disch := first | omega | (simp only [stT, u_0, ag_0, sz_0, by_0, ze_0, es_0, u_3, ag_3, sz_3, by_3, ze_3, es_3, u_4, ag_4, sz_4, by_4, ze_4, bo_4, es_4, u_9, ag_9, sz_9, by_9, ze_9, es_9, u_26, ag_26, sz_26, by_26, ze_26, es_26, u_53, ag_53, sz_53, by_53, ze_53, es_53, u_55, f_55_0, f_55_1, f_55_2, f_55_3, f_55_4, f_55_5, f_55_6, f_55_7, f_55_8, ag_55, sz_55, by_55, ze_55, pl_55, es_55, u_57, ag_57, sz_57, by_57, ze_57, es_57]; done) | (simp only [List.append_assoc, List.cons_append, List.nil_append, pre_n, pre_c, pre_a, pre_g, pre_r]; done) | (simp only [List.length_set]; done) | (simp only [List.length_set]; omega) | assumption | decide +kernel | fail) only [↓RP, RQ, isConstA, Nat.reduceEqDiff, Nat.reduceLT, Nat.reduceAdd, Int.reduceNeg, Int.reduceLT, Int.reduceLE, Int.reduceToNat, Int.reduceEq, ↓reduceIte, ite_true, ite_false, Option.toList, Nat.reduceMul, Nat.reduceSub, Nat.reduceLeDiff, ne_eq, eq_self, u_0, ag_0, sz_0, by_0, ze_0, es_0, u_3, ag_3, sz_3, by_3, ze_3, es_3, u_4, ag_4, sz_4, by_4, ze_4, bo_4, es_4, u_9, ag_9, sz_9, by_9, ze_9, es_9, u_26, ag_26, sz_26, by_26, ze_26, es_26, u_53, ag_53, sz_53, by_53, ze_53, es_53, u_55, f_55_0, f_55_1, f_55_2, f_55_3, f_55_4, f_55_5, f_55_6, f_55_7, f_55_8, ag_55, sz_55, by_55, ze_55, pl_55, es_55, u_57, ag_57, sz_57, by_57, ze_57, es_57, ↓AW_loop, a.top, muxC, tm2, e, bb_eql]
  exact ⟨rfl, Ext.refl _⟩
/-- The bytes of a frame. -/
def frameS (kind id : Nat) (body : List UInt8) : List UInt8 := [UInt8.ofNat kind, UInt8.ofNat (id / 256), UInt8.ofNat id, UInt8.ofNat (body.length / 256), UInt8.ofNat body.length] ++ body
theorem wrap8N (n : Nat) : IntKind.u8.wrap (n : Int) = ((UInt8.ofNat n).toNat : Int) := by rw [wrapu8, UInt8.toNat_ofNat']; omega
theorem frame_q (kind id : Nat) (body : List UInt8) (hb : body.length < 2 ^ 40) (h : AHeap) : Quiet cx 28 [.int .i64 kind, .int .i64 id, .string (str body)] h (.string (str (frameS kind id body))) := by
  refine FW_f Try.func28 rfl (by decide +kernel) ?_
  have e5 : repCells [Value.int .u8 0] 5 = [.int .u8 0, .int .u8 0, .int .u8 0, .int .u8 0, .int .u8 0] := rfl
  have es : strOf [.int .u8 ((UInt8.ofNat kind).toNat : Int), .int .u8 ((UInt8.ofNat (id / 256)).toNat : Int), .int .u8 ((UInt8.ofNat id).toNat : Int), .int .u8 ((UInt8.ofNat (body.length / 256)).toNat : Int), .int .u8 ((UInt8.ofNat body.length).toNat : Int)] = some [UInt8.ofNat kind, UInt8.ofNat (id / 256), UInt8.ofNat id, UInt8.ofNat (body.length / 256), UInt8.ofNat body.length] :=
    strOf_map [UInt8.ofNat kind, UInt8.ofNat (id / 256), UInt8.ofNat id, UInt8.ofNat (body.length / 256), UInt8.ofNat body.length]
  simp -dsimp -implicitDefEqProofs (disch := first | omega | (simp only [stT, u_3, ag_3, sz_3, by_3, ze_3, es_3, u_5, ag_5, sz_5, by_5, ze_5, u8_5, es_5, u_9, ag_9, sz_9, by_9, ze_9, es_9, u_40, ag_40, sz_40, by_40, ze_40, es_40, u_64, ag_64, sz_64, by_64, ze_64, es_64]; done) | (simp only [List.append_assoc, List.cons_append, List.nil_append, pre_n, pre_c, pre_a, pre_g, pre_r]; done) | (simp only [List.length_set]; done) | (simp only [List.length_set]; omega) | assumption | decide +kernel | fail) only [↓RP, RQ, isConstA, Nat.reduceEqDiff, Nat.reduceLT, Nat.reduceAdd, Int.reduceNeg, Int.reduceLT, Int.reduceLE, Int.reduceToNat, Int.reduceEq, ↓reduceIte, ite_true, ite_false, Option.toList, Nat.reduceMul, Nat.reduceSub, Nat.reduceLeDiff, ne_eq, eq_self, u_3, ag_3, sz_3, by_3, ze_3, es_3, u_5, ag_5, sz_5, by_5, ze_5, u8_5, es_5, u_9, ag_9, sz_9, by_9, ze_9, es_9, u_40, ag_40, sz_40, by_40, ze_40, es_40, u_64, ag_64, sz_64, by_64, ze_64, es_64, ↓AW_loop, cv_bs u_9 u_40 u8_5, cv_ss u_40 u8_5, wrap8N, e5, es]
  (repeat (refine And.intro (by omega) ?_))
  exact ⟨rfl, Ext.app _ _⟩
/-- The first place that holds true. -/
def ix : List Bool → Nat → Int
  | [], _ => -1
  | true :: _, k => k
  | false :: l, k => ix l (k + 1)
theorem ix_spec : ∀ (l : List Bool) (k : Nat), (ix l k = -1 ∧ ∀ j : Nat, l[j]? ≠ some true) ∨ ∃ i : Nat, ix l k = ((k + i : Nat) : Int) ∧ l[i]? = some true ∧ ∀ j : Nat, j < i → l[j]? = some false
  | [], k => .inl ⟨rfl, fun j => by simp⟩
  | true :: l, k => .inr ⟨0, rfl, rfl, fun j hj => by omega⟩
  | false :: l, k => by
    rcases ix_spec l (k + 1) with ⟨h1, h2⟩ | ⟨i, h1, h2, h3⟩
    · refine .inl ⟨h1, fun j => ?_⟩
      cases j with
      | zero => simp
      | succ j => simpa using h2 j
    · refine .inr ⟨i + 1, by rw [ix, h1]; congr 1; omega, by simpa using h2, fun j hj => ?_⟩
      cases j with
      | zero => rfl
      | succ j => simpa using h3 j (by omega)
theorem index_q (k : FuncId) (cap : Value) (bs : List Bool) {h : AHeap} {sb : Option Nat} {ids : List Nat} (hsl : (sb = none ∧ ids = []) ∨ ∃ b, sb = some b ∧ blkA h b = some ⟨ids.map ptrC, 1, false⟩) (hl : ids.length = bs.length) (hlt : ids.length < 2 ^ 40)
    (hf : ∀ (i b : Nat) v, ids[i]? = some b → bs[i]? = some v → ∀ g, Quiet cx k [ptrC b, cap] (h ++ g) (.bool v)) : Quiet cx 41 [.slice (slA sb) ids.length ids.length, .func (.func k) #[] #[cap]] h (.int .i64 (ix bs 0)) := by
  refine FW_f Try.func41 rfl (by decide +kernel) ?_
  simp -dsimp -implicitDefEqProofs (disch := first | omega | (simp only [stT, u_3, ag_3, sz_3, by_3, ze_3, es_3, u_53, ag_53, sz_53, by_53, ze_53, es_53, u_57, ag_57, sz_57, by_57, ze_57, es_57, u_83, ag_83, sz_83, by_83, ze_83, es_83]; done) | (simp only [List.append_assoc, List.cons_append, List.nil_append, pre_n, pre_c, pre_a, pre_g, pre_r]; done) | (simp only [List.length_set]; done) | (simp only [List.length_set]; omega) | assumption | decide +kernel | fail) only [↓RP, RQ, isConstA, Nat.reduceEqDiff, Nat.reduceLT, Nat.reduceAdd, Int.reduceNeg, Int.reduceLT, Int.reduceLE, Int.reduceToNat, Int.reduceEq, ↓reduceIte, ite_true, ite_false, Option.toList, Nat.reduceMul, Nat.reduceSub, Nat.reduceLeDiff, ne_eq, eq_self, u_3, ag_3, sz_3, by_3, ze_3, es_3, u_53, ag_53, sz_53, by_53, ze_53, es_53, u_57, ag_57, sz_57, by_57, ze_57, es_57, u_83, ag_83, sz_83, by_83, ze_83, es_83, ↓AW_loop]
  refine LW_rule (fun n fr h' => ∃ (i : Nat) (g : AHeap), i ≤ ids.length ∧ n = ids.length - i ∧ fget fr 8 = .int .i64 i ∧ fget fr 7 = .int .i64 ids.length ∧ fget fr 0 = .slice (slA sb) ids.length ids.length ∧ fget fr 1 = .func (.func k) #[] #[cap] ∧ ix bs 0 = ix (bs.drop i) i ∧ h' = h ++ g) ?_ ids.length _ _ ⟨0, [], by omega, rfl, ?_⟩
  · rintro n fr h' ⟨i, g, hi, hn, f8, f7, f0, f1, hix, rfl⟩
    by_cases hilt : i < ids.length
    · have hx : ids[i]? = some (ids[i]'hilt) := List.getElem?_eq_getElem _
      have hv : bs[i]? = some (bs[i]'(by omega)) := List.getElem?_eq_getElem _
      have hd : bs.drop i = bs[i]'(by omega) :: bs.drop (i + 1) := List.drop_eq_getElem_cons (by omega)
      generalize bs[i]'(by omega) = v at hv hd
      generalize ids[i]'hilt = b at hx
      rcases hsl with ⟨_, rfl⟩ | ⟨c, rfl, hc⟩
      · simp at hx
      · have hilt' : (i : Int) < ids.length := by omega
        have hcX := fun X => blkA_app X hc
        have hcell : (ids.map ptrC)[i]? = some (ptrC b) := by rw [List.getElem?_map, hx]; rfl
        rw [hix, hd]
        unfold slA at f0
        simp only [Option.map_some] at f0
        simp -dsimp -implicitDefEqProofs (disch := first | omega | (simp only [stT, u_3, ag_3, sz_3, by_3, ze_3, es_3, u_53, ag_53, sz_53, by_53, ze_53, es_53, u_57, ag_57, sz_57, by_57, ze_57, es_57, u_83, ag_83, sz_83, by_83, ze_83, es_83]; done) | (simp only [List.append_assoc, List.cons_append, List.nil_append, pre_n, pre_c, pre_a, pre_g, pre_r]; done) | (simp only [List.length_set]; done) | (simp only [List.length_set]; omega) | assumption | decide +kernel | fail) only [↓RP, RQ, isConstA, Nat.reduceEqDiff, Nat.reduceLT, Nat.reduceAdd, Int.reduceNeg, Int.reduceLT, Int.reduceLE, Int.reduceToNat, Int.reduceEq, ↓reduceIte, ite_true, ite_false, Option.toList, Nat.reduceMul, Nat.reduceSub, Nat.reduceLeDiff, ne_eq, eq_self, u_3, ag_3, sz_3, by_3, ze_3, es_3, u_53, ag_53, sz_53, by_53, ze_53, es_53, u_57, ag_57, sz_57, by_57, ze_57, es_57, u_83, ag_83, sz_83, by_83, ze_83, es_83, ↓AW_loop, f8, f7, f0, f1, hilt', hcX, hcell]
        refine (hf i b v hx hv _).use' fun g2 => ?_
        cases v with
        | true => 
          simp -dsimp -implicitDefEqProofs (disch := first | omega | (simp only [stT, u_3, ag_3, sz_3, by_3, ze_3, es_3, u_53, ag_53, sz_53, by_53, ze_53, es_53, u_57, ag_57, sz_57, by_57, ze_57, es_57, u_83, ag_83, sz_83, by_83, ze_83, es_83]; done) | (simp only [List.append_assoc, List.cons_append, List.nil_append, pre_n, pre_c, pre_a, pre_g, pre_r]; done) | (simp only [List.length_set]; done) | (simp only [List.length_set]; omega) | assumption | decide +kernel | fail) only [↓RP, RQ, isConstA, Nat.reduceEqDiff, Nat.reduceLT, Nat.reduceAdd, Int.reduceNeg, Int.reduceLT, Int.reduceLE, Int.reduceToNat, Int.reduceEq, ↓reduceIte, ite_true, ite_false, Option.toList, Nat.reduceMul, Nat.reduceSub, Nat.reduceLeDiff, ne_eq, eq_self, u_3, ag_3, sz_3, by_3, ze_3, es_3, u_53, ag_53, sz_53, by_53, ze_53, es_53, u_57, ag_57, sz_57, by_57, ze_57, es_57, u_83, ag_83, sz_83, by_83, ze_83, es_83, ↓AW_loop, ix]
          exact Ext.app _ _
        | false =>
          simp -dsimp -implicitDefEqProofs (disch := first | omega | (simp only [stT, u_3, ag_3, sz_3, by_3, ze_3, es_3, u_53, ag_53, sz_53, by_53, ze_53, es_53, u_57, ag_57, sz_57, by_57, ze_57, es_57, u_83, ag_83, sz_83, by_83, ze_83, es_83]; done) | (simp only [List.append_assoc, List.cons_append, List.nil_append, pre_n, pre_c, pre_a, pre_g, pre_r]; done) | (simp only [List.length_set]; done) | (simp only [List.length_set]; omega) | assumption | decide +kernel | fail) only [↓RP, RQ, isConstA, Nat.reduceEqDiff, Nat.reduceLT, Nat.reduceAdd, Int.reduceNeg, Int.reduceLT, Int.reduceLE, Int.reduceToNat, Int.reduceEq, ↓reduceIte, ite_true, ite_false, Option.toList, Nat.reduceMul, Nat.reduceSub, Nat.reduceLeDiff, ne_eq, eq_self, u_3, ag_3, sz_3, by_3, ze_3, es_3, u_53, ag_53, sz_53, by_53, ze_53, es_53, u_57, ag_57, sz_57, by_57, ze_57, es_57, u_83, ag_83, sz_83, by_83, ze_83, es_83, ↓AW_loop, f8, f7, f0, f1, ix]
          exact ⟨ids.length - (i + 1), by omega, i + 1, _, by omega, rfl, rfl, rfl, rfl, rfl⟩
    · simp -dsimp -implicitDefEqProofs (disch := first | omega | (simp only [stT, u_3, ag_3, sz_3, by_3, ze_3, es_3, u_53, ag_53, sz_53, by_53, ze_53, es_53, u_57, ag_57, sz_57, by_57, ze_57, es_57, u_83, ag_83, sz_83, by_83, ze_83, es_83]; done) | (simp only [List.append_assoc, List.cons_append, List.nil_append, pre_n, pre_c, pre_a, pre_g, pre_r]; done) | (simp only [List.length_set]; done) | (simp only [List.length_set]; omega) | assumption | decide +kernel | fail) only [↓RP, RQ, isConstA, Nat.reduceEqDiff, Nat.reduceLT, Nat.reduceAdd, Int.reduceNeg, Int.reduceLT, Int.reduceLE, Int.reduceToNat, Int.reduceEq, ↓reduceIte, ite_true, ite_false, Option.toList, Nat.reduceMul, Nat.reduceSub, Nat.reduceLeDiff, ne_eq, eq_self, u_3, ag_3, sz_3, by_3, ze_3, es_3, u_53, ag_53, sz_53, by_53, ze_53, es_53, u_57, ag_57, sz_57, by_57, ze_57, es_57, u_83, ag_83, sz_83, by_83, ze_83, es_83, ↓AW_loop, f8, f7]
      rw [if_neg (by omega), hix, List.drop_of_length_le (by omega)]
      exact ⟨rfl, Ext.app _ _⟩
  · simp -dsimp -implicitDefEqProofs (disch := first | omega | (simp only [stT, u_3, ag_3, sz_3, by_3, ze_3, es_3, u_53, ag_53, sz_53, by_53, ze_53, es_53, u_57, ag_57, sz_57, by_57, ze_57, es_57, u_83, ag_83, sz_83, by_83, ze_83, es_83]; done) | (simp only [List.append_assoc, List.cons_append, List.nil_append, pre_n, pre_c, pre_a, pre_g, pre_r]; done) | (simp only [List.length_set]; done) | (simp only [List.length_set]; omega) | assumption | decide +kernel | fail) only [↓RP, RQ, isConstA, Nat.reduceEqDiff, Nat.reduceLT, Nat.reduceAdd, Int.reduceNeg, Int.reduceLT, Int.reduceLE, Int.reduceToNat, Int.reduceEq, ↓reduceIte, ite_true, ite_false, Option.toList, Nat.reduceMul, Nat.reduceSub, Nat.reduceLeDiff, ne_eq, eq_self, u_3, ag_3, sz_3, by_3, ze_3, es_3, u_53, ag_53, sz_53, by_53, ze_53, es_53, u_57, ag_57, sz_57, by_57, ze_57, es_57, u_83, ag_83, sz_83, by_83, ze_83, es_83, ↓AW_loop] <;> (and_intros <;> first | rfl | simp)
theorem find1_q (s : Strm) (id : Nat) {h : AHeap} {b c : Nat} (hb : blkA h b = some ⟨strmC s, 11, false⟩) (hc : blkA h c = some ⟨[.int .i64 id], 1, false⟩) : Quiet cx 47 [ptrC b, .pointer (some ⟨c, 0, none⟩)] h (.bool (decide (s.id = id))) := by
  unfold ptrC
  refine FW_f Try.func47 rfl (by decide +kernel) ?_
  have e : decide ((s.id : Int) = id) = decide (s.id = id) := by congr 1; exact propext (by omega)
  simp -dsimp -implicitDefEqProofs (disch := first | omega | (simp only [stT, u_0, ag_0, sz_0, by_0, ze_0, es_0, u_3, ag_3, sz_3, by_3, ze_3, es_3, u_4, ag_4, sz_4, by_4, ze_4, bo_4, es_4, u_9, ag_9, sz_9, by_9, ze_9, es_9, u_57, ag_57, sz_57, by_57, ze_57, es_57, u_63, f_63_0, f_63_1, f_63_2, f_63_3, f_63_4, f_63_5, f_63_6, f_63_7, f_63_8, f_63_9, f_63_10, ag_63, sz_63, by_63, ze_63, pl_63, es_63]; done) | (simp only [List.append_assoc, List.cons_append, List.nil_append, pre_n, pre_c, pre_a, pre_g, pre_r]; done) | (simp only [List.length_set]; done) | (simp only [List.length_set]; omega) | assumption | decide +kernel | fail) only [↓RP, RQ, isConstA, Nat.reduceEqDiff, Nat.reduceLT, Nat.reduceAdd, Int.reduceNeg, Int.reduceLT, Int.reduceLE, Int.reduceToNat, Int.reduceEq, ↓reduceIte, ite_true, ite_false, Option.toList, Nat.reduceMul, Nat.reduceSub, Nat.reduceLeDiff, ne_eq, eq_self, u_0, ag_0, sz_0, by_0, ze_0, es_0, u_3, ag_3, sz_3, by_3, ze_3, es_3, u_4, ag_4, sz_4, by_4, ze_4, bo_4, es_4, u_9, ag_9, sz_9, by_9, ze_9, es_9, u_57, ag_57, sz_57, by_57, ze_57, es_57, u_63, f_63_0, f_63_1, f_63_2, f_63_3, f_63_4, f_63_5, f_63_6, f_63_7, f_63_8, f_63_9, f_63_10, ag_63, sz_63, by_63, ze_63, pl_63, es_63, ↓AW_loop, hb, hc, strmC, e]
  exact ⟨by decide +kernel, Ext.refl _⟩
theorem mapget {α β : Type} {f : α → β} {l : List α} {i : Nat} {b : β} (h : (l.map f)[i]? = some b) : ∃ x, l[i]? = some x ∧ f x = b := by
  rw [List.getElem?_map, Option.map_eq_some_iff] at h; exact h
/-- Which stream has a number. -/
def findS (m : MuxS) (id : Nat) : Int := ix (m.streams.map fun s => decide (s.id = id)) 0
theorem find_spec (m : MuxS) (id : Nat) : (findS m id = -1 ∧ ∀ s, s ∈ m.streams → s.id ≠ id) ∨ ∃ i s, findS m id = ((i : Nat) : Int) ∧ m.streams[i]? = some s ∧ s.id = id ∧ ∀ (j : Nat) t, j < i → m.streams[j]? = some t → t.id ≠ id := by
  rcases ix_spec (m.streams.map fun s => decide (s.id = id)) 0 with ⟨h1, h2⟩ | ⟨i, h1, h2, h3⟩
  · refine .inl ⟨h1, fun s hs e => ?_⟩
    obtain ⟨j, hj⟩ := List.getElem?_of_mem hs
    exact h2 j (by rw [List.getElem?_map, hj]; simp [e])
  · obtain ⟨s, hs, he⟩ := mapget h2
    refine .inr ⟨i, s, by rw [findS, h1, Nat.zero_add], hs, by simpa using he, fun j t hj ht => ?_⟩
    have := h3 j hj
    rw [List.getElem?_map, ht] at this
    simpa using this
def findV (ids : List Nat) (i : Int) : Value := if i < 0 then .pointer none else ptrC (ids.getD i.toNat 0)
theorem find_q (m : MuxS) (id : Nat) {h : AHeap} {p : Nat} {sb : Option Nat} {ids : List Nat} (a : MuxAt h p sb ids m) (hl : ids.length < 2 ^ 40) : Quiet cx 33 [ptrC p, .int .i64 id] h (findV ids (findS m id)) := by
  unfold ptrC
  refine FW_f Try.func33 rfl (by decide +kernel) ?_
  have htX := fun X => blkA_app X a.top
  simp -dsimp -implicitDefEqProofs (disch := first | omega | (simp only [stT, u_3, ag_3, sz_3, by_3, ze_3, es_3, u_4, ag_4, sz_4, by_4, ze_4, bo_4, es_4, u_9, ag_9, sz_9, by_9, ze_9, es_9, u_26, ag_26, sz_26, by_26, ze_26, es_26, u_53, ag_53, sz_53, by_53, ze_53, es_53, u_55, f_55_0, f_55_1, f_55_2, f_55_3, f_55_4, f_55_5, f_55_6, f_55_7, f_55_8, ag_55, sz_55, by_55, ze_55, pl_55, es_55, u_57, ag_57, sz_57, by_57, ze_57, es_57, u_83, ag_83, sz_83, by_83, ze_83, es_83]; done) | (simp only [List.append_assoc, List.cons_append, List.nil_append, pre_n, pre_c, pre_a, pre_g, pre_r]; done) | (simp only [List.length_set]; done) | (simp only [List.length_set]; omega) | assumption | decide +kernel | fail) only [↓RP, RQ, isConstA, Nat.reduceEqDiff, Nat.reduceLT, Nat.reduceAdd, Int.reduceNeg, Int.reduceLT, Int.reduceLE, Int.reduceToNat, Int.reduceEq, ↓reduceIte, ite_true, ite_false, Option.toList, Nat.reduceMul, Nat.reduceSub, Nat.reduceLeDiff, ne_eq, eq_self, u_3, ag_3, sz_3, by_3, ze_3, es_3, u_4, ag_4, sz_4, by_4, ze_4, bo_4, es_4, u_9, ag_9, sz_9, by_9, ze_9, es_9, u_26, ag_26, sz_26, by_26, ze_26, es_26, u_53, ag_53, sz_53, by_53, ze_53, es_53, u_55, f_55_0, f_55_1, f_55_2, f_55_3, f_55_4, f_55_5, f_55_6, f_55_7, f_55_8, ag_55, sz_55, by_55, ze_55, pl_55, es_55, u_57, ag_57, sz_57, by_57, ze_57, es_57, u_83, ag_83, sz_83, by_83, ze_83, es_83, ↓AW_loop, htX, muxC]
  have hl2 : ids.length = (m.streams.map fun s => decide (s.id = id)).length := by rw [List.length_map]; exact a.len
  have a1 := a.app [some (.cells ⟨[.int .i64 id], 1, false⟩)]
  have hc : blkA (h ++ [some (.cells ⟨[.int .i64 (id : Int)], 1, false⟩)]) h.length = some ⟨[.int .i64 id], 1, false⟩ := blkA_new _ _
  refine (index_q 47 _ _ a1.sl hl2 hl ?_).use' fun g => ?_
  · intro i b v hb hv g
    obtain ⟨s, hs, rfl⟩ := mapget hv
    exact find1_q s id (blkA_app g (a1.str i s b hs hb)) (blkA_app g hc)
  · rw [show ix (m.streams.map fun s => decide (s.id = id)) 0 = findS m id from rfl]
    rcases find_spec m id with ⟨e, _⟩ | ⟨i, s, e, hs, _⟩
    · rw [e]
      simp -dsimp -implicitDefEqProofs (disch := first | omega | (simp only [stT, u_3, ag_3, sz_3, by_3, ze_3, es_3, u_4, ag_4, sz_4, by_4, ze_4, bo_4, es_4, u_9, ag_9, sz_9, by_9, ze_9, es_9, u_26, ag_26, sz_26, by_26, ze_26, es_26, u_53, ag_53, sz_53, by_53, ze_53, es_53, u_55, f_55_0, f_55_1, f_55_2, f_55_3, f_55_4, f_55_5, f_55_6, f_55_7, f_55_8, ag_55, sz_55, by_55, ze_55, pl_55, es_55, u_57, ag_57, sz_57, by_57, ze_57, es_57, u_83, ag_83, sz_83, by_83, ze_83, es_83]; done) | (simp only [List.append_assoc, List.cons_append, List.nil_append, pre_n, pre_c, pre_a, pre_g, pre_r]; done) | (simp only [List.length_set]; done) | (simp only [List.length_set]; omega) | assumption | decide +kernel | fail) only [↓RP, RQ, isConstA, Nat.reduceEqDiff, Nat.reduceLT, Nat.reduceAdd, Int.reduceNeg, Int.reduceLT, Int.reduceLE, Int.reduceToNat, Int.reduceEq, ↓reduceIte, ite_true, ite_false, Option.toList, Nat.reduceMul, Nat.reduceSub, Nat.reduceLeDiff, ne_eq, eq_self, u_3, ag_3, sz_3, by_3, ze_3, es_3, u_4, ag_4, sz_4, by_4, ze_4, bo_4, es_4, u_9, ag_9, sz_9, by_9, ze_9, es_9, u_26, ag_26, sz_26, by_26, ze_26, es_26, u_53, ag_53, sz_53, by_53, ze_53, es_53, u_55, f_55_0, f_55_1, f_55_2, f_55_3, f_55_4, f_55_5, f_55_6, f_55_7, f_55_8, ag_55, sz_55, by_55, ze_55, pl_55, es_55, u_57, ag_57, sz_57, by_57, ze_57, es_57, u_83, ag_83, sz_83, by_83, ze_83, es_83, ↓AW_loop, htX, muxC]
      exact ⟨rfl, Ext.app _ _⟩
    · rw [e]
      have hi : i < ids.length := by rw [a.len]; exact (List.getElem?_eq_some_iff.1 hs).1
      obtain ⟨b, hb⟩ : ∃ b, ids[i]? = some b := ⟨_, List.getElem?_eq_getElem hi⟩
      have hi' : (i : Int) < ids.length := by omega
      have hi0 : ¬ (i : Int) < 0 := by omega
      rcases a.sl with ⟨_, rfl⟩ | ⟨c, rfl, hc2⟩
      · simp at hi
      · have hcX := fun X => blkA_app X hc2
        have hcell : (ids.map ptrC)[i]? = some (ptrC b) := by rw [List.getElem?_map, hb]; rfl
        simp -dsimp -implicitDefEqProofs (disch := first | omega | (simp only [stT, u_3, ag_3, sz_3, by_3, ze_3, es_3, u_4, ag_4, sz_4, by_4, ze_4, bo_4, es_4, u_9, ag_9, sz_9, by_9, ze_9, es_9, u_26, ag_26, sz_26, by_26, ze_26, es_26, u_53, ag_53, sz_53, by_53, ze_53, es_53, u_55, f_55_0, f_55_1, f_55_2, f_55_3, f_55_4, f_55_5, f_55_6, f_55_7, f_55_8, ag_55, sz_55, by_55, ze_55, pl_55, es_55, u_57, ag_57, sz_57, by_57, ze_57, es_57, u_83, ag_83, sz_83, by_83, ze_83, es_83]; done) | (simp only [List.append_assoc, List.cons_append, List.nil_append, pre_n, pre_c, pre_a, pre_g, pre_r]; done) | (simp only [List.length_set]; done) | (simp only [List.length_set]; omega) | assumption | decide +kernel | fail) only [↓RP, RQ, isConstA, Nat.reduceEqDiff, Nat.reduceLT, Nat.reduceAdd, Int.reduceNeg, Int.reduceLT, Int.reduceLE, Int.reduceToNat, Int.reduceEq, ↓reduceIte, ite_true, ite_false, Option.toList, Nat.reduceMul, Nat.reduceSub, Nat.reduceLeDiff, ne_eq, eq_self, u_3, ag_3, sz_3, by_3, ze_3, es_3, u_4, ag_4, sz_4, by_4, ze_4, bo_4, es_4, u_9, ag_9, sz_9, by_9, ze_9, es_9, u_26, ag_26, sz_26, by_26, ze_26, es_26, u_53, ag_53, sz_53, by_53, ze_53, es_53, u_55, f_55_0, f_55_1, f_55_2, f_55_3, f_55_4, f_55_5, f_55_6, f_55_7, f_55_8, ag_55, sz_55, by_55, ze_55, pl_55, es_55, u_57, ag_57, sz_57, by_57, ze_57, es_57, u_83, ag_83, sz_83, by_83, ze_83, es_83, ↓AW_loop, htX, hcX, muxC, hi', hi0, hcell, slA, Option.map_some]
        refine ⟨?_, Ext.app _ _⟩
        unfold findV
        rw [if_neg hi0, Int.toNat_natCast, List.getD_eq_getElem?_getD, hb]
        rfl
end Go.Abs
/- Mx2: the walks of the multiplexer: counting, which stream may be written to, a stream added behind all others. Conditions: none. -/
set_option maxRecDepth 100000
set_option linter.unusedSimpArgs false
set_option linter.unusedVariables false
namespace Go.Abs
open Go.Proofs
def countS (m : MuxS) (own : Bool) (l : List Strm) : Nat := (l.filter fun s => ownS m s.id == own).length
theorem countS_take (m : MuxS) (own : Bool) {l : List Strm} {i : Nat} {s : Strm} (h : l[i]? = some s) : countS m own (l.take (i + 1)) = countS m own (l.take i) + if ownS m s.id == own then 1 else 0 := by
  unfold countS
  rw [List.take_add_one, h, List.filter_append, List.length_append]
  simp only [Option.toList_some, List.filter_cons, List.filter_nil]
  split <;> simp_all
theorem countS_le (m : MuxS) (own : Bool) (l : List Strm) : countS m own l ≤ l.length := List.length_filter_le _ _
theorem count_q (m : MuxS) (own : Bool) {h : AHeap} {p : Nat} {sb : Option Nat} {ids : List Nat} (a : MuxAt h p sb ids m) (hl : ids.length < 2 ^ 40) : Quiet cx 26 [ptrC p, .bool own] h (.int .i64 (countS m own m.streams)) := by
  unfold ptrC
  refine FW_f Try.func26 rfl (by decide +kernel) ?_
  simp -dsimp -implicitDefEqProofs (disch := first | omega | (simp only [stT, u_0, ag_0, sz_0, by_0, ze_0, es_0, u_3, ag_3, sz_3, by_3, ze_3, es_3, u_4, ag_4, sz_4, by_4, ze_4, bo_4, es_4, u_9, ag_9, sz_9, by_9, ze_9, es_9, u_26, ag_26, sz_26, by_26, ze_26, es_26, u_53, ag_53, sz_53, by_53, ze_53, es_53, u_55, f_55_0, f_55_1, f_55_2, f_55_3, f_55_4, f_55_5, f_55_6, f_55_7, f_55_8, ag_55, sz_55, by_55, ze_55, pl_55, es_55, u_57, ag_57, sz_57, by_57, ze_57, es_57, u_63, f_63_0, f_63_1, f_63_2, f_63_3, f_63_4, f_63_5, f_63_6, f_63_7, f_63_8, f_63_9, f_63_10, ag_63, sz_63, by_63, ze_63, pl_63, es_63]; done) | (simp only [List.append_assoc, List.cons_append, List.nil_append, pre_n, pre_c, pre_a, pre_g, pre_r]; done) | (simp only [List.length_set]; done) | (simp only [List.length_set]; omega) | assumption | decide +kernel | fail) only [↓RP, RQ, isConstA, Nat.reduceEqDiff, Nat.reduceLT, Nat.reduceAdd, Int.reduceNeg, Int.reduceLT, Int.reduceLE, Int.reduceToNat, Int.reduceEq, ↓reduceIte, ite_true, ite_false, Option.toList, Nat.reduceMul, Nat.reduceSub, Nat.reduceLeDiff, ne_eq, eq_self, u_0, ag_0, sz_0, by_0, ze_0, es_0, u_3, ag_3, sz_3, by_3, ze_3, es_3, u_4, ag_4, sz_4, by_4, ze_4, bo_4, es_4, u_9, ag_9, sz_9, by_9, ze_9, es_9, u_26, ag_26, sz_26, by_26, ze_26, es_26, u_53, ag_53, sz_53, by_53, ze_53, es_53, u_55, f_55_0, f_55_1, f_55_2, f_55_3, f_55_4, f_55_5, f_55_6, f_55_7, f_55_8, ag_55, sz_55, by_55, ze_55, pl_55, es_55, u_57, ag_57, sz_57, by_57, ze_57, es_57, u_63, f_63_0, f_63_1, f_63_2, f_63_3, f_63_4, f_63_5, f_63_6, f_63_7, f_63_8, f_63_9, f_63_10, ag_63, sz_63, by_63, ze_63, pl_63, es_63, ↓AW_loop, a.top, muxC]
  have hlen := a.len
  refine LW_rule (fun n fr h' => ∃ (i : Nat) (g : AHeap), i ≤ ids.length ∧ n = ids.length - i ∧ fget fr 13 = .int .i64 i ∧ fget fr 12 = .int .i64 ids.length ∧ fget fr 11 = .slice (slA sb) ids.length ids.length ∧ fget fr 0 = .pointer (some ⟨p, 0, none⟩) ∧ fget fr 1 = .bool own ∧ fget fr 5 = .int .i64 (countS m own (m.streams.take i)) ∧ h' = h ++ g) ?_ ids.length _ _ ⟨0, [], by omega, rfl, ?_⟩
  · rintro n fr h' ⟨i, g, hi, hn, f13, f12, f11, f0, f1, f5, rfl⟩
    have hc1 := countS_le m own (m.streams.take i)
    rw [List.length_take] at hc1
    by_cases hlt : i < ids.length
    · obtain ⟨s, hs⟩ : ∃ s, m.streams[i]? = some s := ⟨_, List.getElem?_eq_getElem (by omega)⟩
      obtain ⟨b, hb⟩ : ∃ b, ids[i]? = some b := ⟨_, List.getElem?_eq_getElem hlt⟩
      have hct := countS_take m own hs
      rcases a.sl with ⟨_, rfl⟩ | ⟨c, rfl, hc⟩
      · simp at hlt
      · have hlt' : (i : Int) < ids.length := by omega
        have hcX := fun X => blkA_app X hc
        have hbX := fun X => blkA_app X (a.str i s b hs hb)
        have hcell : (ids.map ptrC)[i]? = some (.pointer (some ⟨b, 0, none⟩)) := by rw [List.getElem?_map, hb]; rfl
        unfold slA at f11
        simp only [Option.map_some] at f11
        simp -dsimp -implicitDefEqProofs (disch := first | omega | (simp only [stT, u_0, ag_0, sz_0, by_0, ze_0, es_0, u_3, ag_3, sz_3, by_3, ze_3, es_3, u_4, ag_4, sz_4, by_4, ze_4, bo_4, es_4, u_9, ag_9, sz_9, by_9, ze_9, es_9, u_26, ag_26, sz_26, by_26, ze_26, es_26, u_53, ag_53, sz_53, by_53, ze_53, es_53, u_55, f_55_0, f_55_1, f_55_2, f_55_3, f_55_4, f_55_5, f_55_6, f_55_7, f_55_8, ag_55, sz_55, by_55, ze_55, pl_55, es_55, u_57, ag_57, sz_57, by_57, ze_57, es_57, u_63, f_63_0, f_63_1, f_63_2, f_63_3, f_63_4, f_63_5, f_63_6, f_63_7, f_63_8, f_63_9, f_63_10, ag_63, sz_63, by_63, ze_63, pl_63, es_63]; done) | (simp only [List.append_assoc, List.cons_append, List.nil_append, pre_n, pre_c, pre_a, pre_g, pre_r]; done) | (simp only [List.length_set]; done) | (simp only [List.length_set]; omega) | assumption | decide +kernel | fail) only [↓RP, RQ, isConstA, Nat.reduceEqDiff, Nat.reduceLT, Nat.reduceAdd, Int.reduceNeg, Int.reduceLT, Int.reduceLE, Int.reduceToNat, Int.reduceEq, ↓reduceIte, ite_true, ite_false, Option.toList, Nat.reduceMul, Nat.reduceSub, Nat.reduceLeDiff, ne_eq, eq_self, u_0, ag_0, sz_0, by_0, ze_0, es_0, u_3, ag_3, sz_3, by_3, ze_3, es_3, u_4, ag_4, sz_4, by_4, ze_4, bo_4, es_4, u_9, ag_9, sz_9, by_9, ze_9, es_9, u_26, ag_26, sz_26, by_26, ze_26, es_26, u_53, ag_53, sz_53, by_53, ze_53, es_53, u_55, f_55_0, f_55_1, f_55_2, f_55_3, f_55_4, f_55_5, f_55_6, f_55_7, f_55_8, ag_55, sz_55, by_55, ze_55, pl_55, es_55, u_57, ag_57, sz_57, by_57, ze_57, es_57, u_63, f_63_0, f_63_1, f_63_2, f_63_3, f_63_4, f_63_5, f_63_6, f_63_7, f_63_8, f_63_9, f_63_10, ag_63, sz_63, by_63, ze_63, pl_63, es_63, ↓AW_loop, f13, f12, f11, f0, f1, f5, hlt', hcX, hcell, hbX, strmC]
        refine (own_q m s.id (a.app _)).use' fun g2 => ?_
        cases ho : ownS m s.id == own with
        | true =>
          simp -dsimp -implicitDefEqProofs (disch := first | omega | (simp only [stT, u_0, ag_0, sz_0, by_0, ze_0, es_0, u_3, ag_3, sz_3, by_3, ze_3, es_3, u_4, ag_4, sz_4, by_4, ze_4, bo_4, es_4, u_9, ag_9, sz_9, by_9, ze_9, es_9, u_26, ag_26, sz_26, by_26, ze_26, es_26, u_53, ag_53, sz_53, by_53, ze_53, es_53, u_55, f_55_0, f_55_1, f_55_2, f_55_3, f_55_4, f_55_5, f_55_6, f_55_7, f_55_8, ag_55, sz_55, by_55, ze_55, pl_55, es_55, u_57, ag_57, sz_57, by_57, ze_57, es_57, u_63, f_63_0, f_63_1, f_63_2, f_63_3, f_63_4, f_63_5, f_63_6, f_63_7, f_63_8, f_63_9, f_63_10, ag_63, sz_63, by_63, ze_63, pl_63, es_63]; done) | (simp only [List.append_assoc, List.cons_append, List.nil_append, pre_n, pre_c, pre_a, pre_g, pre_r]; done) | (simp only [List.length_set]; done) | (simp only [List.length_set]; omega) | assumption | decide +kernel | fail) only [↓RP, RQ, isConstA, Nat.reduceEqDiff, Nat.reduceLT, Nat.reduceAdd, Int.reduceNeg, Int.reduceLT, Int.reduceLE, Int.reduceToNat, Int.reduceEq, ↓reduceIte, ite_true, ite_false, Option.toList, Nat.reduceMul, Nat.reduceSub, Nat.reduceLeDiff, ne_eq, eq_self, u_0, ag_0, sz_0, by_0, ze_0, es_0, u_3, ag_3, sz_3, by_3, ze_3, es_3, u_4, ag_4, sz_4, by_4, ze_4, bo_4, es_4, u_9, ag_9, sz_9, by_9, ze_9, es_9, u_26, ag_26, sz_26, by_26, ze_26, es_26, u_53, ag_53, sz_53, by_53, ze_53, es_53, u_55, f_55_0, f_55_1, f_55_2, f_55_3, f_55_4, f_55_5, f_55_6, f_55_7, f_55_8, ag_55, sz_55, by_55, ze_55, pl_55, es_55, u_57, ag_57, sz_57, by_57, ze_57, es_57, u_63, f_63_0, f_63_1, f_63_2, f_63_3, f_63_4, f_63_5, f_63_6, f_63_7, f_63_8, f_63_9, f_63_10, ag_63, sz_63, by_63, ze_63, pl_63, es_63, ↓AW_loop, f13, f12, f11, f0, f1, f5, ho, bb_eql]
          refine ⟨ids.length - (i + 1), by omega, i + 1, g ++ g2, by omega, rfl, rfl, rfl, ?_⟩
          rw [hct, if_pos ho]; exact ⟨rfl, rfl⟩
        | false =>
          simp -dsimp -implicitDefEqProofs (disch := first | omega | (simp only [stT, u_0, ag_0, sz_0, by_0, ze_0, es_0, u_3, ag_3, sz_3, by_3, ze_3, es_3, u_4, ag_4, sz_4, by_4, ze_4, bo_4, es_4, u_9, ag_9, sz_9, by_9, ze_9, es_9, u_26, ag_26, sz_26, by_26, ze_26, es_26, u_53, ag_53, sz_53, by_53, ze_53, es_53, u_55, f_55_0, f_55_1, f_55_2, f_55_3, f_55_4, f_55_5, f_55_6, f_55_7, f_55_8, ag_55, sz_55, by_55, ze_55, pl_55, es_55, u_57, ag_57, sz_57, by_57, ze_57, es_57, u_63, f_63_0, f_63_1, f_63_2, f_63_3, f_63_4, f_63_5, f_63_6, f_63_7, f_63_8, f_63_9, f_63_10, ag_63, sz_63, by_63, ze_63, pl_63, es_63]; done) | (simp only [List.append_assoc, List.cons_append, List.nil_append, pre_n, pre_c, pre_a, pre_g, pre_r]; done) | (simp only [List.length_set]; done) | (simp only [List.length_set]; omega) | assumption | decide +kernel | fail) only [↓RP, RQ, isConstA, Nat.reduceEqDiff, Nat.reduceLT, Nat.reduceAdd, Int.reduceNeg, Int.reduceLT, Int.reduceLE, Int.reduceToNat, Int.reduceEq, ↓reduceIte, ite_true, ite_false, Option.toList, Nat.reduceMul, Nat.reduceSub, Nat.reduceLeDiff, ne_eq, eq_self, u_0, ag_0, sz_0, by_0, ze_0, es_0, u_3, ag_3, sz_3, by_3, ze_3, es_3, u_4, ag_4, sz_4, by_4, ze_4, bo_4, es_4, u_9, ag_9, sz_9, by_9, ze_9, es_9, u_26, ag_26, sz_26, by_26, ze_26, es_26, u_53, ag_53, sz_53, by_53, ze_53, es_53, u_55, f_55_0, f_55_1, f_55_2, f_55_3, f_55_4, f_55_5, f_55_6, f_55_7, f_55_8, ag_55, sz_55, by_55, ze_55, pl_55, es_55, u_57, ag_57, sz_57, by_57, ze_57, es_57, u_63, f_63_0, f_63_1, f_63_2, f_63_3, f_63_4, f_63_5, f_63_6, f_63_7, f_63_8, f_63_9, f_63_10, ag_63, sz_63, by_63, ze_63, pl_63, es_63, ↓AW_loop, f13, f12, f11, f0, f1, f5, ho, bb_eql]
          refine ⟨ids.length - (i + 1), by omega, i + 1, g ++ g2, by omega, rfl, rfl, rfl, ?_⟩
          rw [hct, if_neg (by rw [ho]; simp)]; exact ⟨rfl, rfl⟩
    · simp -dsimp -implicitDefEqProofs (disch := first | omega | (simp only [stT, u_0, ag_0, sz_0, by_0, ze_0, es_0, u_3, ag_3, sz_3, by_3, ze_3, es_3, u_4, ag_4, sz_4, by_4, ze_4, bo_4, es_4, u_9, ag_9, sz_9, by_9, ze_9, es_9, u_26, ag_26, sz_26, by_26, ze_26, es_26, u_53, ag_53, sz_53, by_53, ze_53, es_53, u_55, f_55_0, f_55_1, f_55_2, f_55_3, f_55_4, f_55_5, f_55_6, f_55_7, f_55_8, ag_55, sz_55, by_55, ze_55, pl_55, es_55, u_57, ag_57, sz_57, by_57, ze_57, es_57, u_63, f_63_0, f_63_1, f_63_2, f_63_3, f_63_4, f_63_5, f_63_6, f_63_7, f_63_8, f_63_9, f_63_10, ag_63, sz_63, by_63, ze_63, pl_63, es_63]; done) | (simp only [List.append_assoc, List.cons_append, List.nil_append, pre_n, pre_c, pre_a, pre_g, pre_r]; done) | (simp only [List.length_set]; done) | (simp only [List.length_set]; omega) | assumption | decide +kernel | fail) only [↓RP, RQ, isConstA, Nat.reduceEqDiff, Nat.reduceLT, Nat.reduceAdd, Int.reduceNeg, Int.reduceLT, Int.reduceLE, Int.reduceToNat, Int.reduceEq, ↓reduceIte, ite_true, ite_false, Option.toList, Nat.reduceMul, Nat.reduceSub, Nat.reduceLeDiff, ne_eq, eq_self, u_0, ag_0, sz_0, by_0, ze_0, es_0, u_3, ag_3, sz_3, by_3, ze_3, es_3, u_4, ag_4, sz_4, by_4, ze_4, bo_4, es_4, u_9, ag_9, sz_9, by_9, ze_9, es_9, u_26, ag_26, sz_26, by_26, ze_26, es_26, u_53, ag_53, sz_53, by_53, ze_53, es_53, u_55, f_55_0, f_55_1, f_55_2, f_55_3, f_55_4, f_55_5, f_55_6, f_55_7, f_55_8, ag_55, sz_55, by_55, ze_55, pl_55, es_55, u_57, ag_57, sz_57, by_57, ze_57, es_57, u_63, f_63_0, f_63_1, f_63_2, f_63_3, f_63_4, f_63_5, f_63_6, f_63_7, f_63_8, f_63_9, f_63_10, ag_63, sz_63, by_63, ze_63, pl_63, es_63, ↓AW_loop, f13, f12, f5]
      rw [if_neg (by omega), List.take_of_length_le (by omega)]
      exact ⟨rfl, Ext.app _ _⟩
  · simp -dsimp -implicitDefEqProofs (disch := first | omega | (simp only [stT, u_0, ag_0, sz_0, by_0, ze_0, es_0, u_3, ag_3, sz_3, by_3, ze_3, es_3, u_4, ag_4, sz_4, by_4, ze_4, bo_4, es_4, u_9, ag_9, sz_9, by_9, ze_9, es_9, u_26, ag_26, sz_26, by_26, ze_26, es_26, u_53, ag_53, sz_53, by_53, ze_53, es_53, u_55, f_55_0, f_55_1, f_55_2, f_55_3, f_55_4, f_55_5, f_55_6, f_55_7, f_55_8, ag_55, sz_55, by_55, ze_55, pl_55, es_55, u_57, ag_57, sz_57, by_57, ze_57, es_57, u_63, f_63_0, f_63_1, f_63_2, f_63_3, f_63_4, f_63_5, f_63_6, f_63_7, f_63_8, f_63_9, f_63_10, ag_63, sz_63, by_63, ze_63, pl_63, es_63]; done) | (simp only [List.append_assoc, List.cons_append, List.nil_append, pre_n, pre_c, pre_a, pre_g, pre_r]; done) | (simp only [List.length_set]; done) | (simp only [List.length_set]; omega) | assumption | decide +kernel | fail) only [↓RP, RQ, isConstA, Nat.reduceEqDiff, Nat.reduceLT, Nat.reduceAdd, Int.reduceNeg, Int.reduceLT, Int.reduceLE, Int.reduceToNat, Int.reduceEq, ↓reduceIte, ite_true, ite_false, Option.toList, Nat.reduceMul, Nat.reduceSub, Nat.reduceLeDiff, ne_eq, eq_self, u_0, ag_0, sz_0, by_0, ze_0, es_0, u_3, ag_3, sz_3, by_3, ze_3, es_3, u_4, ag_4, sz_4, by_4, ze_4, bo_4, es_4, u_9, ag_9, sz_9, by_9, ze_9, es_9, u_26, ag_26, sz_26, by_26, ze_26, es_26, u_53, ag_53, sz_53, by_53, ze_53, es_53, u_55, f_55_0, f_55_1, f_55_2, f_55_3, f_55_4, f_55_5, f_55_6, f_55_7, f_55_8, ag_55, sz_55, by_55, ze_55, pl_55, es_55, u_57, ag_57, sz_57, by_57, ze_57, es_57, u_63, f_63_0, f_63_1, f_63_2, f_63_3, f_63_4, f_63_5, f_63_6, f_63_7, f_63_8, f_63_9, f_63_10, ag_63, sz_63, by_63, ze_63, pl_63, es_63, ↓AW_loop] <;> (and_intros <;> first | rfl | simp)
/-- A stream that may be written to: its place; or the number of an error. -/
def usableS (m : MuxS) (id : Nat) : Int := if m.broken = true then 7 else if findS m id < 0 then 4 else match m.streams[(findS m id).toNat]? with
  | some s => if s.ends = true ∨ s.reset = true then 16 else 0
  | none => 4
theorem usable_q (m : MuxS) (id : Nat) {h : AHeap} {p : Nat} {sb : Option Nat} {ids : List Nat} (a : MuxAt h p sb ids m) (hl : ids.length < 2 ^ 40) :
    Quiet cx 29 [ptrC p, .int .i64 id] h (.tuple #[if usableS m id = 0 then findV ids (findS m id) else .pointer none, .int .i64 (usableS m id)]) := by
  refine FW_f Try.func29 rfl (by decide +kernel) ?_
  simp -dsimp -implicitDefEqProofs (disch := first | omega | (simp only [stT, u_2, ag_2, sz_2, by_2, ze_2, es_2, u_3, ag_3, sz_3, by_3, ze_3, es_3, u_4, ag_4, sz_4, by_4, ze_4, bo_4, es_4, u_6, ag_6, sz_6, by_6, ze_6, u8_6, es_6, u_7, f_7_0, f_7_1, f_7_2, f_7_3, ag_7, sz_7, by_7, ze_7, pl_7, es_7, u_8, f_8_0, f_8_1, f_8_2, f_8_3, ag_8, sz_8, by_8, ze_8, pl_8, es_8, u_9, ag_9, sz_9, by_9, ze_9, es_9, u_10, ag_10, sz_10, by_10, ze_10, es_10, u_26, ag_26, sz_26, by_26, ze_26, es_26, u_27, ag_27, sz_27, by_27, ze_27, es_27, u_53, ag_53, sz_53, by_53, ze_53, es_53, u_55, f_55_0, f_55_1, f_55_2, f_55_3, f_55_4, f_55_5, f_55_6, f_55_7, f_55_8, ag_55, sz_55, by_55, ze_55, pl_55, es_55, u_57, ag_57, sz_57, by_57, ze_57, es_57, u_63, f_63_0, f_63_1, f_63_2, f_63_3, f_63_4, f_63_5, f_63_6, f_63_7, f_63_8, f_63_9, f_63_10, ag_63, sz_63, by_63, ze_63, pl_63, es_63]; done) | (simp only [List.append_assoc, List.cons_append, List.nil_append, pre_n, pre_c, pre_a, pre_g, pre_r]; done) | (simp only [List.length_set]; done) | (simp only [List.length_set]; omega) | assumption | decide +kernel | fail) only [↓RP, RQ, isConstA, Nat.reduceEqDiff, Nat.reduceLT, Nat.reduceAdd, Int.reduceNeg, Int.reduceLT, Int.reduceLE, Int.reduceToNat, Int.reduceEq, ↓reduceIte, ite_true, ite_false, Option.toList, Nat.reduceMul, Nat.reduceSub, Nat.reduceLeDiff, ne_eq, eq_self, u_2, ag_2, sz_2, by_2, ze_2, es_2, u_3, ag_3, sz_3, by_3, ze_3, es_3, u_4, ag_4, sz_4, by_4, ze_4, bo_4, es_4, u_6, ag_6, sz_6, by_6, ze_6, u8_6, es_6, u_7, f_7_0, f_7_1, f_7_2, f_7_3, ag_7, sz_7, by_7, ze_7, pl_7, es_7, u_8, f_8_0, f_8_1, f_8_2, f_8_3, ag_8, sz_8, by_8, ze_8, pl_8, es_8, u_9, ag_9, sz_9, by_9, ze_9, es_9, u_10, ag_10, sz_10, by_10, ze_10, es_10, u_26, ag_26, sz_26, by_26, ze_26, es_26, u_27, ag_27, sz_27, by_27, ze_27, es_27, u_53, ag_53, sz_53, by_53, ze_53, es_53, u_55, f_55_0, f_55_1, f_55_2, f_55_3, f_55_4, f_55_5, f_55_6, f_55_7, f_55_8, ag_55, sz_55, by_55, ze_55, pl_55, es_55, u_57, ag_57, sz_57, by_57, ze_57, es_57, u_63, f_63_0, f_63_1, f_63_2, f_63_3, f_63_4, f_63_5, f_63_6, f_63_7, f_63_8, f_63_9, f_63_10, ag_63, sz_63, by_63, ze_63, pl_63, es_63, ↓AW_loop]
  refine (find_q m id a hl).use' fun g => ?_
  have htX := fun X => blkA_app X a.top
  unfold usableS
  cases hbr : m.broken with
  | true =>
    simp -dsimp -implicitDefEqProofs (disch := first | omega | (simp only [stT, u_2, ag_2, sz_2, by_2, ze_2, es_2, u_3, ag_3, sz_3, by_3, ze_3, es_3, u_4, ag_4, sz_4, by_4, ze_4, bo_4, es_4, u_6, ag_6, sz_6, by_6, ze_6, u8_6, es_6, u_7, f_7_0, f_7_1, f_7_2, f_7_3, ag_7, sz_7, by_7, ze_7, pl_7, es_7, u_8, f_8_0, f_8_1, f_8_2, f_8_3, ag_8, sz_8, by_8, ze_8, pl_8, es_8, u_9, ag_9, sz_9, by_9, ze_9, es_9, u_10, ag_10, sz_10, by_10, ze_10, es_10, u_26, ag_26, sz_26, by_26, ze_26, es_26, u_27, ag_27, sz_27, by_27, ze_27, es_27, u_53, ag_53, sz_53, by_53, ze_53, es_53, u_55, f_55_0, f_55_1, f_55_2, f_55_3, f_55_4, f_55_5, f_55_6, f_55_7, f_55_8, ag_55, sz_55, by_55, ze_55, pl_55, es_55, u_57, ag_57, sz_57, by_57, ze_57, es_57, u_63, f_63_0, f_63_1, f_63_2, f_63_3, f_63_4, f_63_5, f_63_6, f_63_7, f_63_8, f_63_9, f_63_10, ag_63, sz_63, by_63, ze_63, pl_63, es_63]; done) | (simp only [List.append_assoc, List.cons_append, List.nil_append, pre_n, pre_c, pre_a, pre_g, pre_r]; done) | (simp only [List.length_set]; done) | (simp only [List.length_set]; omega) | assumption | decide +kernel | fail) only [↓RP, RQ, isConstA, Nat.reduceEqDiff, Nat.reduceLT, Nat.reduceAdd, Int.reduceNeg, Int.reduceLT, Int.reduceLE, Int.reduceToNat, Int.reduceEq, ↓reduceIte, ite_true, ite_false, Option.toList, Nat.reduceMul, Nat.reduceSub, Nat.reduceLeDiff, ne_eq, eq_self, u_2, ag_2, sz_2, by_2, ze_2, es_2, u_3, ag_3, sz_3, by_3, ze_3, es_3, u_4, ag_4, sz_4, by_4, ze_4, bo_4, es_4, u_6, ag_6, sz_6, by_6, ze_6, u8_6, es_6, u_7, f_7_0, f_7_1, f_7_2, f_7_3, ag_7, sz_7, by_7, ze_7, pl_7, es_7, u_8, f_8_0, f_8_1, f_8_2, f_8_3, ag_8, sz_8, by_8, ze_8, pl_8, es_8, u_9, ag_9, sz_9, by_9, ze_9, es_9, u_10, ag_10, sz_10, by_10, ze_10, es_10, u_26, ag_26, sz_26, by_26, ze_26, es_26, u_27, ag_27, sz_27, by_27, ze_27, es_27, u_53, ag_53, sz_53, by_53, ze_53, es_53, u_55, f_55_0, f_55_1, f_55_2, f_55_3, f_55_4, f_55_5, f_55_6, f_55_7, f_55_8, ag_55, sz_55, by_55, ze_55, pl_55, es_55, u_57, ag_57, sz_57, by_57, ze_57, es_57, u_63, f_63_0, f_63_1, f_63_2, f_63_3, f_63_4, f_63_5, f_63_6, f_63_7, f_63_8, f_63_9, f_63_10, ag_63, sz_63, by_63, ze_63, pl_63, es_63, ↓AW_loop, htX, muxC, hbr, ptrC]
    exact Ext.app _ _
  | false =>
    rcases find_spec m id with ⟨e, _⟩ | ⟨i, s, e, hs, _⟩
    · rw [e]
      simp -dsimp -implicitDefEqProofs (disch := first | omega | (simp only [stT, u_2, ag_2, sz_2, by_2, ze_2, es_2, u_3, ag_3, sz_3, by_3, ze_3, es_3, u_4, ag_4, sz_4, by_4, ze_4, bo_4, es_4, u_6, ag_6, sz_6, by_6, ze_6, u8_6, es_6, u_7, f_7_0, f_7_1, f_7_2, f_7_3, ag_7, sz_7, by_7, ze_7, pl_7, es_7, u_8, f_8_0, f_8_1, f_8_2, f_8_3, ag_8, sz_8, by_8, ze_8, pl_8, es_8, u_9, ag_9, sz_9, by_9, ze_9, es_9, u_10, ag_10, sz_10, by_10, ze_10, es_10, u_26, ag_26, sz_26, by_26, ze_26, es_26, u_27, ag_27, sz_27, by_27, ze_27, es_27, u_53, ag_53, sz_53, by_53, ze_53, es_53, u_55, f_55_0, f_55_1, f_55_2, f_55_3, f_55_4, f_55_5, f_55_6, f_55_7, f_55_8, ag_55, sz_55, by_55, ze_55, pl_55, es_55, u_57, ag_57, sz_57, by_57, ze_57, es_57, u_63, f_63_0, f_63_1, f_63_2, f_63_3, f_63_4, f_63_5, f_63_6, f_63_7, f_63_8, f_63_9, f_63_10, ag_63, sz_63, by_63, ze_63, pl_63, es_63]; done) | (simp only [List.append_assoc, List.cons_append, List.nil_append, pre_n, pre_c, pre_a, pre_g, pre_r]; done) | (simp only [List.length_set]; done) | (simp only [List.length_set]; omega) | assumption | decide +kernel | fail) only [↓RP, RQ, isConstA, Nat.reduceEqDiff, Nat.reduceLT, Nat.reduceAdd, Int.reduceNeg, Int.reduceLT, Int.reduceLE, Int.reduceToNat, Int.reduceEq, ↓reduceIte, ite_true, ite_false, Option.toList, Nat.reduceMul, Nat.reduceSub, Nat.reduceLeDiff, ne_eq, eq_self, u_2, ag_2, sz_2, by_2, ze_2, es_2, u_3, ag_3, sz_3, by_3, ze_3, es_3, u_4, ag_4, sz_4, by_4, ze_4, bo_4, es_4, u_6, ag_6, sz_6, by_6, ze_6, u8_6, es_6, u_7, f_7_0, f_7_1, f_7_2, f_7_3, ag_7, sz_7, by_7, ze_7, pl_7, es_7, u_8, f_8_0, f_8_1, f_8_2, f_8_3, ag_8, sz_8, by_8, ze_8, pl_8, es_8, u_9, ag_9, sz_9, by_9, ze_9, es_9, u_10, ag_10, sz_10, by_10, ze_10, es_10, u_26, ag_26, sz_26, by_26, ze_26, es_26, u_27, ag_27, sz_27, by_27, ze_27, es_27, u_53, ag_53, sz_53, by_53, ze_53, es_53, u_55, f_55_0, f_55_1, f_55_2, f_55_3, f_55_4, f_55_5, f_55_6, f_55_7, f_55_8, ag_55, sz_55, by_55, ze_55, pl_55, es_55, u_57, ag_57, sz_57, by_57, ze_57, es_57, u_63, f_63_0, f_63_1, f_63_2, f_63_3, f_63_4, f_63_5, f_63_6, f_63_7, f_63_8, f_63_9, f_63_10, ag_63, sz_63, by_63, ze_63, pl_63, es_63, ↓AW_loop, htX, muxC, hbr, ptrC, findV]
      exact Ext.app _ _
    · rw [e]
      have hi : i < ids.length := by rw [a.len]; exact (List.getElem?_eq_some_iff.1 hs).1
      obtain ⟨b, hb⟩ : ∃ b, ids[i]? = some b := ⟨_, List.getElem?_eq_getElem hi⟩
      have hi0 : ¬ (i : Int) < 0 := by omega
      have hv : findV ids (i : Int) = .pointer (some ⟨b, 0, none⟩) := by
        unfold findV
        rw [if_neg hi0, Int.toNat_natCast, List.getD_eq_getElem?_getD, hb]
        rfl
      have hbX := fun X => blkA_app X (a.str i s b hs hb)
      rw [hv]
      simp only [Int.toNat_natCast, hs]
      cases h1 : s.ends
      · cases h2 : s.reset
        · simp -dsimp -implicitDefEqProofs (disch := first | omega | (simp only [stT, u_2, ag_2, sz_2, by_2, ze_2, es_2, u_3, ag_3, sz_3, by_3, ze_3, es_3, u_4, ag_4, sz_4, by_4, ze_4, bo_4, es_4, u_6, ag_6, sz_6, by_6, ze_6, u8_6, es_6, u_7, f_7_0, f_7_1, f_7_2, f_7_3, ag_7, sz_7, by_7, ze_7, pl_7, es_7, u_8, f_8_0, f_8_1, f_8_2, f_8_3, ag_8, sz_8, by_8, ze_8, pl_8, es_8, u_9, ag_9, sz_9, by_9, ze_9, es_9, u_10, ag_10, sz_10, by_10, ze_10, es_10, u_26, ag_26, sz_26, by_26, ze_26, es_26, u_27, ag_27, sz_27, by_27, ze_27, es_27, u_53, ag_53, sz_53, by_53, ze_53, es_53, u_55, f_55_0, f_55_1, f_55_2, f_55_3, f_55_4, f_55_5, f_55_6, f_55_7, f_55_8, ag_55, sz_55, by_55, ze_55, pl_55, es_55, u_57, ag_57, sz_57, by_57, ze_57, es_57, u_63, f_63_0, f_63_1, f_63_2, f_63_3, f_63_4, f_63_5, f_63_6, f_63_7, f_63_8, f_63_9, f_63_10, ag_63, sz_63, by_63, ze_63, pl_63, es_63]; done) | (simp only [List.append_assoc, List.cons_append, List.nil_append, pre_n, pre_c, pre_a, pre_g, pre_r]; done) | (simp only [List.length_set]; done) | (simp only [List.length_set]; omega) | assumption | decide +kernel | fail) only [↓RP, RQ, isConstA, Nat.reduceEqDiff, Nat.reduceLT, Nat.reduceAdd, Int.reduceNeg, Int.reduceLT, Int.reduceLE, Int.reduceToNat, Int.reduceEq, ↓reduceIte, ite_true, ite_false, Option.toList, Nat.reduceMul, Nat.reduceSub, Nat.reduceLeDiff, ne_eq, eq_self, u_2, ag_2, sz_2, by_2, ze_2, es_2, u_3, ag_3, sz_3, by_3, ze_3, es_3, u_4, ag_4, sz_4, by_4, ze_4, bo_4, es_4, u_6, ag_6, sz_6, by_6, ze_6, u8_6, es_6, u_7, f_7_0, f_7_1, f_7_2, f_7_3, ag_7, sz_7, by_7, ze_7, pl_7, es_7, u_8, f_8_0, f_8_1, f_8_2, f_8_3, ag_8, sz_8, by_8, ze_8, pl_8, es_8, u_9, ag_9, sz_9, by_9, ze_9, es_9, u_10, ag_10, sz_10, by_10, ze_10, es_10, u_26, ag_26, sz_26, by_26, ze_26, es_26, u_27, ag_27, sz_27, by_27, ze_27, es_27, u_53, ag_53, sz_53, by_53, ze_53, es_53, u_55, f_55_0, f_55_1, f_55_2, f_55_3, f_55_4, f_55_5, f_55_6, f_55_7, f_55_8, ag_55, sz_55, by_55, ze_55, pl_55, es_55, u_57, ag_57, sz_57, by_57, ze_57, es_57, u_63, f_63_0, f_63_1, f_63_2, f_63_3, f_63_4, f_63_5, f_63_6, f_63_7, f_63_8, f_63_9, f_63_10, ag_63, sz_63, by_63, ze_63, pl_63, es_63, ↓AW_loop, htX, muxC, hbr, ptrC, hbX, strmC, h1, h2, hi0]
          exact Ext.app _ _
        · simp -dsimp -implicitDefEqProofs (disch := first | omega | (simp only [stT, u_2, ag_2, sz_2, by_2, ze_2, es_2, u_3, ag_3, sz_3, by_3, ze_3, es_3, u_4, ag_4, sz_4, by_4, ze_4, bo_4, es_4, u_6, ag_6, sz_6, by_6, ze_6, u8_6, es_6, u_7, f_7_0, f_7_1, f_7_2, f_7_3, ag_7, sz_7, by_7, ze_7, pl_7, es_7, u_8, f_8_0, f_8_1, f_8_2, f_8_3, ag_8, sz_8, by_8, ze_8, pl_8, es_8, u_9, ag_9, sz_9, by_9, ze_9, es_9, u_10, ag_10, sz_10, by_10, ze_10, es_10, u_26, ag_26, sz_26, by_26, ze_26, es_26, u_27, ag_27, sz_27, by_27, ze_27, es_27, u_53, ag_53, sz_53, by_53, ze_53, es_53, u_55, f_55_0, f_55_1, f_55_2, f_55_3, f_55_4, f_55_5, f_55_6, f_55_7, f_55_8, ag_55, sz_55, by_55, ze_55, pl_55, es_55, u_57, ag_57, sz_57, by_57, ze_57, es_57, u_63, f_63_0, f_63_1, f_63_2, f_63_3, f_63_4, f_63_5, f_63_6, f_63_7, f_63_8, f_63_9, f_63_10, ag_63, sz_63, by_63, ze_63, pl_63, es_63]; done) | (simp only [List.append_assoc, List.cons_append, List.nil_append, pre_n, pre_c, pre_a, pre_g, pre_r]; done) | (simp only [List.length_set]; done) | (simp only [List.length_set]; omega) | assumption | decide +kernel | fail) only [↓RP, RQ, isConstA, Nat.reduceEqDiff, Nat.reduceLT, Nat.reduceAdd, Int.reduceNeg, Int.reduceLT, Int.reduceLE, Int.reduceToNat, Int.reduceEq, ↓reduceIte, ite_true, ite_false, Option.toList, Nat.reduceMul, Nat.reduceSub, Nat.reduceLeDiff, ne_eq, eq_self, u_2, ag_2, sz_2, by_2, ze_2, es_2, u_3, ag_3, sz_3, by_3, ze_3, es_3, u_4, ag_4, sz_4, by_4, ze_4, bo_4, es_4, u_6, ag_6, sz_6, by_6, ze_6, u8_6, es_6, u_7, f_7_0, f_7_1, f_7_2, f_7_3, ag_7, sz_7, by_7, ze_7, pl_7, es_7, u_8, f_8_0, f_8_1, f_8_2, f_8_3, ag_8, sz_8, by_8, ze_8, pl_8, es_8, u_9, ag_9, sz_9, by_9, ze_9, es_9, u_10, ag_10, sz_10, by_10, ze_10, es_10, u_26, ag_26, sz_26, by_26, ze_26, es_26, u_27, ag_27, sz_27, by_27, ze_27, es_27, u_53, ag_53, sz_53, by_53, ze_53, es_53, u_55, f_55_0, f_55_1, f_55_2, f_55_3, f_55_4, f_55_5, f_55_6, f_55_7, f_55_8, ag_55, sz_55, by_55, ze_55, pl_55, es_55, u_57, ag_57, sz_57, by_57, ze_57, es_57, u_63, f_63_0, f_63_1, f_63_2, f_63_3, f_63_4, f_63_5, f_63_6, f_63_7, f_63_8, f_63_9, f_63_10, ag_63, sz_63, by_63, ze_63, pl_63, es_63, ↓AW_loop, htX, muxC, hbr, ptrC, hbX, strmC, h1, h2, hi0]
          exact Ext.app _ _
      · simp -dsimp -implicitDefEqProofs (disch := first | omega | (simp only [stT, u_2, ag_2, sz_2, by_2, ze_2, es_2, u_3, ag_3, sz_3, by_3, ze_3, es_3, u_4, ag_4, sz_4, by_4, ze_4, bo_4, es_4, u_6, ag_6, sz_6, by_6, ze_6, u8_6, es_6, u_7, f_7_0, f_7_1, f_7_2, f_7_3, ag_7, sz_7, by_7, ze_7, pl_7, es_7, u_8, f_8_0, f_8_1, f_8_2, f_8_3, ag_8, sz_8, by_8, ze_8, pl_8, es_8, u_9, ag_9, sz_9, by_9, ze_9, es_9, u_10, ag_10, sz_10, by_10, ze_10, es_10, u_26, ag_26, sz_26, by_26, ze_26, es_26, u_27, ag_27, sz_27, by_27, ze_27, es_27, u_53, ag_53, sz_53, by_53, ze_53, es_53, u_55, f_55_0, f_55_1, f_55_2, f_55_3, f_55_4, f_55_5, f_55_6, f_55_7, f_55_8, ag_55, sz_55, by_55, ze_55, pl_55, es_55, u_57, ag_57, sz_57, by_57, ze_57, es_57, u_63, f_63_0, f_63_1, f_63_2, f_63_3, f_63_4, f_63_5, f_63_6, f_63_7, f_63_8, f_63_9, f_63_10, ag_63, sz_63, by_63, ze_63, pl_63, es_63]; done) | (simp only [List.append_assoc, List.cons_append, List.nil_append, pre_n, pre_c, pre_a, pre_g, pre_r]; done) | (simp only [List.length_set]; done) | (simp only [List.length_set]; omega) | assumption | decide +kernel | fail) only [↓RP, RQ, isConstA, Nat.reduceEqDiff, Nat.reduceLT, Nat.reduceAdd, Int.reduceNeg, Int.reduceLT, Int.reduceLE, Int.reduceToNat, Int.reduceEq, ↓reduceIte, ite_true, ite_false, Option.toList, Nat.reduceMul, Nat.reduceSub, Nat.reduceLeDiff, ne_eq, eq_self, u_2, ag_2, sz_2, by_2, ze_2, es_2, u_3, ag_3, sz_3, by_3, ze_3, es_3, u_4, ag_4, sz_4, by_4, ze_4, bo_4, es_4, u_6, ag_6, sz_6, by_6, ze_6, u8_6, es_6, u_7, f_7_0, f_7_1, f_7_2, f_7_3, ag_7, sz_7, by_7, ze_7, pl_7, es_7, u_8, f_8_0, f_8_1, f_8_2, f_8_3, ag_8, sz_8, by_8, ze_8, pl_8, es_8, u_9, ag_9, sz_9, by_9, ze_9, es_9, u_10, ag_10, sz_10, by_10, ze_10, es_10, u_26, ag_26, sz_26, by_26, ze_26, es_26, u_27, ag_27, sz_27, by_27, ze_27, es_27, u_53, ag_53, sz_53, by_53, ze_53, es_53, u_55, f_55_0, f_55_1, f_55_2, f_55_3, f_55_4, f_55_5, f_55_6, f_55_7, f_55_8, ag_55, sz_55, by_55, ze_55, pl_55, es_55, u_57, ag_57, sz_57, by_57, ze_57, es_57, u_63, f_63_0, f_63_1, f_63_2, f_63_3, f_63_4, f_63_5, f_63_6, f_63_7, f_63_8, f_63_9, f_63_10, ag_63, sz_63, by_63, ze_63, pl_63, es_63, ↓AW_loop, htX, muxC, hbr, ptrC, hbX, strmC, h1, hi0]
        exact Ext.app _ _
end Go.Abs
