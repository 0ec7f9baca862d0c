/- PcapMerged, part 3 of 7: what the proof of the law rests on. Conditions: none. -/
import Derived.Test.YtgbhhkcppmikcaaProg
import Derived.Test.YtgbhhkcppmikcaaJPcapMerged2
import Derived.Shelf.Spec.SlicesGrow
set_option linter.unusedSimpArgs false
set_option linter.unusedVariables false
/- Facts about the types of the program: by the kernel. Conditions: none. -/
namespace Go.Abs
open Go.Proofs
theorem u_0 : Try.prog.underlying 0 = some (TypeDesc.tuple #[]) := by kernel_rfl
theorem ag_0 : isAggA Try.prog 0 = some false := by kernel_rfl
theorem sz_0 : sizeA Try.prog 0 = some 1 := by kernel_rfl
theorem by_0 : bytesA Try.prog 0 = some 0 := by kernel_rfl
theorem ze_0 : zeroA Try.prog 0 = some [Value.tuple #[]] := by kernel_rfl
theorem es_0 : eszA Try.prog 0 = some 1 := by kernel_rfl
theorem u_1 : Try.prog.underlying 1 = some (TypeDesc.func #[] #[] false) := by kernel_rfl
theorem ag_1 : isAggA Try.prog 1 = some false := by kernel_rfl
theorem sz_1 : sizeA Try.prog 1 = some 1 := by kernel_rfl
theorem by_1 : bytesA Try.prog 1 = some 8 := by kernel_rfl
theorem ze_1 : zeroA Try.prog 1 = some [Value.nilFunc] := by kernel_rfl
theorem es_1 : eszA Try.prog 1 = some 1 := by kernel_rfl
theorem u_2 : Try.prog.underlying 2 = some (TypeDesc.int IntKind.i64) := by kernel_rfl
theorem ag_2 : isAggA Try.prog 2 = some false := by kernel_rfl
theorem sz_2 : sizeA Try.prog 2 = some 1 := by kernel_rfl
theorem by_2 : bytesA Try.prog 2 = some 8 := by kernel_rfl
theorem ze_2 : zeroA Try.prog 2 = some [Value.int IntKind.i64 (0)] := by kernel_rfl
theorem es_2 : eszA Try.prog 2 = some 1 := by kernel_rfl
theorem u_3 : Try.prog.underlying 3 = some (TypeDesc.int IntKind.i64) := by kernel_rfl
theorem ag_3 : isAggA Try.prog 3 = some false := by kernel_rfl
theorem sz_3 : sizeA Try.prog 3 = some 1 := by kernel_rfl
theorem by_3 : bytesA Try.prog 3 = some 8 := by kernel_rfl
theorem ze_3 : zeroA Try.prog 3 = some [Value.int IntKind.i64 (0)] := by kernel_rfl
theorem es_3 : eszA Try.prog 3 = some 1 := by kernel_rfl
theorem u_4 : Try.prog.underlying 4 = some TypeDesc.bool := by kernel_rfl
theorem ag_4 : isAggA Try.prog 4 = some false := by kernel_rfl
theorem sz_4 : sizeA Try.prog 4 = some 1 := by kernel_rfl
theorem by_4 : bytesA Try.prog 4 = some 1 := by kernel_rfl
theorem ze_4 : zeroA Try.prog 4 = some [Value.bool false] := by kernel_rfl
theorem bo_4 : isBoolT Try.prog 4 = true := by kernel_rfl
theorem es_4 : eszA Try.prog 4 = some 1 := by kernel_rfl
theorem u_5 : Try.prog.underlying 5 = some (TypeDesc.int IntKind.u8) := by kernel_rfl
theorem ag_5 : isAggA Try.prog 5 = some false := by kernel_rfl
theorem sz_5 : sizeA Try.prog 5 = some 1 := by kernel_rfl
theorem by_5 : bytesA Try.prog 5 = some 1 := by kernel_rfl
theorem ze_5 : zeroA Try.prog 5 = some [Value.int IntKind.u8 (0)] := by kernel_rfl
theorem u8_5 : isU8 Try.prog 5 = true := by kernel_rfl
theorem es_5 : eszA Try.prog 5 = some 1 := by kernel_rfl
theorem u_6 : Try.prog.underlying 6 = some (TypeDesc.int IntKind.u8) := by kernel_rfl
theorem ag_6 : isAggA Try.prog 6 = some false := by kernel_rfl
theorem sz_6 : sizeA Try.prog 6 = some 1 := by kernel_rfl
theorem by_6 : bytesA Try.prog 6 = some 1 := by kernel_rfl
theorem ze_6 : zeroA Try.prog 6 = some [Value.int IntKind.u8 (0)] := by kernel_rfl
theorem u8_6 : isU8 Try.prog 6 = true := by kernel_rfl
theorem es_6 : eszA Try.prog 6 = some 1 := by kernel_rfl
theorem u_7 : Try.prog.underlying 7 = some (TypeDesc.struct #[{ name := "x", type := 2, offset := 0, embedded := false, tag := "", pkgPath := "runtime", byteOffset := 0 }, { name := "y", type := 3, offset := 1, embedded := false, tag := "", pkgPath := "runtime", byteOffset := 8 }, { name := "signed", type := 4, offset := 2, embedded := false, tag := "", pkgPath := "runtime", byteOffset := 16 }, { name := "code", type := 6, offset := 3, embedded := false, tag := "", pkgPath := "runtime", byteOffset := 17 }]) := by kernel_rfl
theorem f_7_0 : fieldA Try.prog 7 0 = some (0, 2) := by kernel_rfl
theorem f_7_1 : fieldA Try.prog 7 1 = some (1, 3) := by kernel_rfl
theorem f_7_2 : fieldA Try.prog 7 2 = some (2, 4) := by kernel_rfl
theorem f_7_3 : fieldA Try.prog 7 3 = some (3, 6) := by kernel_rfl
theorem ag_7 : isAggA Try.prog 7 = some true := by kernel_rfl
theorem sz_7 : sizeA Try.prog 7 = some 4 := by kernel_rfl
theorem by_7 : bytesA Try.prog 7 = some 24 := by kernel_rfl
theorem ze_7 : zeroA Try.prog 7 = some [Value.int IntKind.i64 (0), Value.int IntKind.i64 (0), Value.bool false, Value.int IntKind.u8 (0)] := by kernel_rfl
theorem pl_7 : placesA Try.prog 7 = some [(0, 1), (1, 1), (2, 1), (3, 1)] := by kernel_rfl
theorem es_7 : eszA Try.prog 7 = some 4 := by kernel_rfl
theorem u_8 : Try.prog.underlying 8 = some (TypeDesc.struct #[{ name := "x", type := 2, offset := 0, embedded := false, tag := "", pkgPath := "runtime", byteOffset := 0 }, { name := "y", type := 3, offset := 1, embedded := false, tag := "", pkgPath := "runtime", byteOffset := 8 }, { name := "signed", type := 4, offset := 2, embedded := false, tag := "", pkgPath := "runtime", byteOffset := 16 }, { name := "code", type := 6, offset := 3, embedded := false, tag := "", pkgPath := "runtime", byteOffset := 17 }]) := by kernel_rfl
theorem f_8_0 : fieldA Try.prog 8 0 = some (0, 2) := by kernel_rfl
theorem f_8_1 : fieldA Try.prog 8 1 = some (1, 3) := by kernel_rfl
theorem f_8_2 : fieldA Try.prog 8 2 = some (2, 4) := by kernel_rfl
theorem f_8_3 : fieldA Try.prog 8 3 = some (3, 6) := by kernel_rfl
theorem ag_8 : isAggA Try.prog 8 = some true := by kernel_rfl
theorem sz_8 : sizeA Try.prog 8 = some 4 := by kernel_rfl
theorem by_8 : bytesA Try.prog 8 = some 24 := by kernel_rfl
theorem ze_8 : zeroA Try.prog 8 = some [Value.int IntKind.i64 (0), Value.int IntKind.i64 (0), Value.bool false, Value.int IntKind.u8 (0)] := by kernel_rfl
theorem pl_8 : placesA Try.prog 8 = some [(0, 1), (1, 1), (2, 1), (3, 1)] := by kernel_rfl
theorem es_8 : eszA Try.prog 8 = some 4 := by kernel_rfl
theorem u_9 : Try.prog.underlying 9 = some TypeDesc.string := by kernel_rfl
theorem ag_9 : isAggA Try.prog 9 = some false := by kernel_rfl
theorem sz_9 : sizeA Try.prog 9 = some 1 := by kernel_rfl
theorem by_9 : bytesA Try.prog 9 = some 16 := by kernel_rfl
theorem ze_9 : zeroA Try.prog 9 = some [Value.string ⟨#[]⟩] := by kernel_rfl
theorem es_9 : eszA Try.prog 9 = some 1 := by kernel_rfl
theorem u_10 : Try.prog.underlying 10 = some TypeDesc.string := by kernel_rfl
theorem ag_10 : isAggA Try.prog 10 = some false := by kernel_rfl
theorem sz_10 : sizeA Try.prog 10 = some 1 := by kernel_rfl
theorem by_10 : bytesA Try.prog 10 = some 16 := by kernel_rfl
theorem ze_10 : zeroA Try.prog 10 = some [Value.string ⟨#[]⟩] := by kernel_rfl
theorem es_10 : eszA Try.prog 10 = some 1 := by kernel_rfl
theorem u_11 : Try.prog.underlying 11 = some TypeDesc.string := by kernel_rfl
theorem ag_11 : isAggA Try.prog 11 = some false := by kernel_rfl
theorem sz_11 : sizeA Try.prog 11 = some 1 := by kernel_rfl
theorem by_11 : bytesA Try.prog 11 = some 16 := by kernel_rfl
theorem ze_11 : zeroA Try.prog 11 = some [Value.string ⟨#[]⟩] := by kernel_rfl
theorem es_11 : eszA Try.prog 11 = some 1 := by kernel_rfl
theorem u_12 : Try.prog.underlying 12 = some (TypeDesc.int IntKind.u64) := by kernel_rfl
theorem ag_12 : isAggA Try.prog 12 = some false := by kernel_rfl
theorem sz_12 : sizeA Try.prog 12 = some 1 := by kernel_rfl
theorem by_12 : bytesA Try.prog 12 = some 8 := by kernel_rfl
theorem ze_12 : zeroA Try.prog 12 = some [Value.int IntKind.u64 (0)] := by kernel_rfl
theorem es_12 : eszA Try.prog 12 = some 1 := by kernel_rfl
theorem u_13 : Try.prog.underlying 13 = some (TypeDesc.struct #[{ name := "msg", type := 9, offset := 0, embedded := false, tag := "", pkgPath := "runtime", byteOffset := 0 }, { name := "addr", type := 12, offset := 1, embedded := false, tag := "", pkgPath := "runtime", byteOffset := 16 }]) := by kernel_rfl
theorem f_13_0 : fieldA Try.prog 13 0 = some (0, 9) := by kernel_rfl
theorem f_13_1 : fieldA Try.prog 13 1 = some (1, 12) := by kernel_rfl
theorem ag_13 : isAggA Try.prog 13 = some true := by kernel_rfl
theorem sz_13 : sizeA Try.prog 13 = some 2 := by kernel_rfl
theorem by_13 : bytesA Try.prog 13 = some 24 := by kernel_rfl
theorem ze_13 : zeroA Try.prog 13 = some [Value.string ⟨#[]⟩, Value.int IntKind.u64 (0)] := by kernel_rfl
theorem pl_13 : placesA Try.prog 13 = some [(0, 1), (1, 1)] := by kernel_rfl
theorem es_13 : eszA Try.prog 13 = some 2 := by kernel_rfl
theorem u_14 : Try.prog.underlying 14 = some (TypeDesc.struct #[{ name := "msg", type := 9, offset := 0, embedded := false, tag := "", pkgPath := "runtime", byteOffset := 0 }, { name := "addr", type := 12, offset := 1, embedded := false, tag := "", pkgPath := "runtime", byteOffset := 16 }]) := by kernel_rfl
theorem f_14_0 : fieldA Try.prog 14 0 = some (0, 9) := by kernel_rfl
theorem f_14_1 : fieldA Try.prog 14 1 = some (1, 12) := by kernel_rfl
theorem ag_14 : isAggA Try.prog 14 = some true := by kernel_rfl
theorem sz_14 : sizeA Try.prog 14 = some 2 := by kernel_rfl
theorem by_14 : bytesA Try.prog 14 = some 24 := by kernel_rfl
theorem ze_14 : zeroA Try.prog 14 = some [Value.string ⟨#[]⟩, Value.int IntKind.u64 (0)] := by kernel_rfl
theorem pl_14 : placesA Try.prog 14 = some [(0, 1), (1, 1)] := by kernel_rfl
theorem es_14 : eszA Try.prog 14 = some 2 := by kernel_rfl
theorem u_15 : Try.prog.underlying 15 = some (TypeDesc.pointer 61) := by kernel_rfl
theorem ag_15 : isAggA Try.prog 15 = some false := by kernel_rfl
theorem sz_15 : sizeA Try.prog 15 = some 1 := by kernel_rfl
theorem by_15 : bytesA Try.prog 15 = some 8 := by kernel_rfl
theorem ze_15 : zeroA Try.prog 15 = some [Value.pointer none] := by kernel_rfl
theorem es_15 : eszA Try.prog 15 = some 1 := by kernel_rfl
theorem u_16 : Try.prog.underlying 16 = some (TypeDesc.pointer 64) := by kernel_rfl
theorem ag_16 : isAggA Try.prog 16 = some false := by kernel_rfl
theorem sz_16 : sizeA Try.prog 16 = some 1 := by kernel_rfl
theorem by_16 : bytesA Try.prog 16 = some 8 := by kernel_rfl
theorem ze_16 : zeroA Try.prog 16 = some [Value.pointer none] := by kernel_rfl
theorem es_16 : eszA Try.prog 16 = some 1 := by kernel_rfl
theorem u_17 : Try.prog.underlying 17 = some (TypeDesc.pointer 73) := by kernel_rfl
theorem ag_17 : isAggA Try.prog 17 = some false := by kernel_rfl
theorem sz_17 : sizeA Try.prog 17 = some 1 := by kernel_rfl
theorem by_17 : bytesA Try.prog 17 = some 8 := by kernel_rfl
theorem ze_17 : zeroA Try.prog 17 = some [Value.pointer none] := by kernel_rfl
theorem es_17 : eszA Try.prog 17 = some 1 := by kernel_rfl
theorem u_18 : Try.prog.underlying 18 = some (TypeDesc.struct #[{ name := "typ", type := 17, offset := 0, embedded := false, tag := "", pkgPath := "internal/runtime/maps", byteOffset := 0 }]) := by kernel_rfl
theorem f_18_0 : fieldA Try.prog 18 0 = some (0, 17) := by kernel_rfl
theorem ag_18 : isAggA Try.prog 18 = some true := by kernel_rfl
theorem sz_18 : sizeA Try.prog 18 = some 1 := by kernel_rfl
theorem by_18 : bytesA Try.prog 18 = some 8 := by kernel_rfl
theorem ze_18 : zeroA Try.prog 18 = some [Value.pointer none] := by kernel_rfl
theorem pl_18 : placesA Try.prog 18 = some [(0, 1)] := by kernel_rfl
theorem es_18 : eszA Try.prog 18 = some 1 := by kernel_rfl
theorem u_19 : Try.prog.underlying 19 = some (TypeDesc.struct #[{ name := "typ", type := 17, offset := 0, embedded := false, tag := "", pkgPath := "internal/runtime/maps", byteOffset := 0 }]) := by kernel_rfl
theorem f_19_0 : fieldA Try.prog 19 0 = some (0, 17) := by kernel_rfl
theorem ag_19 : isAggA Try.prog 19 = some true := by kernel_rfl
theorem sz_19 : sizeA Try.prog 19 = some 1 := by kernel_rfl
theorem by_19 : bytesA Try.prog 19 = some 8 := by kernel_rfl
theorem ze_19 : zeroA Try.prog 19 = some [Value.pointer none] := by kernel_rfl
theorem pl_19 : placesA Try.prog 19 = some [(0, 1)] := by kernel_rfl
theorem es_19 : eszA Try.prog 19 = some 1 := by kernel_rfl
theorem u_20 : Try.prog.underlying 20 = some (TypeDesc.interface #[]) := by kernel_rfl
theorem ag_20 : isAggA Try.prog 20 = some false := by kernel_rfl
theorem sz_20 : sizeA Try.prog 20 = some 1 := by kernel_rfl
theorem by_20 : bytesA Try.prog 20 = some 16 := by kernel_rfl
theorem ze_20 : zeroA Try.prog 20 = some [Value.nilIface] := by kernel_rfl
theorem es_20 : eszA Try.prog 20 = some 1 := by kernel_rfl
theorem u_21 : Try.prog.underlying 21 = some (TypeDesc.int IntKind.i32) := by kernel_rfl
theorem ag_21 : isAggA Try.prog 21 = some false := by kernel_rfl
theorem sz_21 : sizeA Try.prog 21 = some 1 := by kernel_rfl
theorem by_21 : bytesA Try.prog 21 = some 4 := by kernel_rfl
theorem ze_21 : zeroA Try.prog 21 = some [Value.int IntKind.i32 (0)] := by kernel_rfl
theorem es_21 : eszA Try.prog 21 = some 1 := by kernel_rfl
theorem u_22 : Try.prog.underlying 22 = some (TypeDesc.slice 36) := by kernel_rfl
theorem ag_22 : isAggA Try.prog 22 = some false := by kernel_rfl
theorem sz_22 : sizeA Try.prog 22 = some 1 := by kernel_rfl
theorem by_22 : bytesA Try.prog 22 = some 24 := by kernel_rfl
theorem ze_22 : zeroA Try.prog 22 = some [Value.slice none 0 0] := by kernel_rfl
theorem es_22 : eszA Try.prog 22 = some 1 := by kernel_rfl
theorem u_23 : Try.prog.underlying 23 = some (TypeDesc.int IntKind.i64) := by kernel_rfl
theorem ag_23 : isAggA Try.prog 23 = some false := by kernel_rfl
theorem sz_23 : sizeA Try.prog 23 = some 1 := by kernel_rfl
theorem by_23 : bytesA Try.prog 23 = some 8 := by kernel_rfl
theorem ze_23 : zeroA Try.prog 23 = some [Value.int IntKind.i64 (0)] := by kernel_rfl
theorem es_23 : eszA Try.prog 23 = some 1 := by kernel_rfl
theorem u_24 : Try.prog.underlying 24 = some (TypeDesc.tuple #[9, 23]) := by kernel_rfl
theorem ag_24 : isAggA Try.prog 24 = some false := by kernel_rfl
theorem sz_24 : sizeA Try.prog 24 = some 1 := by kernel_rfl
theorem by_24 : bytesA Try.prog 24 = some 0 := by kernel_rfl
theorem ze_24 : zeroA Try.prog 24 = some [Value.tuple #[Value.string ⟨#[]⟩, Value.int IntKind.i64 (0)]] := by kernel_rfl
theorem es_24 : eszA Try.prog 24 = some 1 := by kernel_rfl
theorem u_25 : Try.prog.underlying 25 = some (TypeDesc.func #[22] #[9, 23] false) := by kernel_rfl
theorem ag_25 : isAggA Try.prog 25 = some false := by kernel_rfl
theorem sz_25 : sizeA Try.prog 25 = some 1 := by kernel_rfl
theorem by_25 : bytesA Try.prog 25 = some 8 := by kernel_rfl
theorem ze_25 : zeroA Try.prog 25 = some [Value.nilFunc] := by kernel_rfl
theorem es_25 : eszA Try.prog 25 = some 1 := by kernel_rfl
theorem u_26 : Try.prog.underlying 26 = some (TypeDesc.func #[] #[4] false) := by kernel_rfl
theorem ag_26 : isAggA Try.prog 26 = some false := by kernel_rfl
theorem sz_26 : sizeA Try.prog 26 = some 1 := by kernel_rfl
theorem by_26 : bytesA Try.prog 26 = some 8 := by kernel_rfl
theorem ze_26 : zeroA Try.prog 26 = some [Value.nilFunc] := by kernel_rfl
theorem es_26 : eszA Try.prog 26 = some 1 := by kernel_rfl
theorem u_27 : Try.prog.underlying 27 = some (TypeDesc.tuple #[22, 3]) := by kernel_rfl
theorem ag_27 : isAggA Try.prog 27 = some false := by kernel_rfl
theorem sz_27 : sizeA Try.prog 27 = some 1 := by kernel_rfl
theorem by_27 : bytesA Try.prog 27 = some 0 := by kernel_rfl
theorem ze_27 : zeroA Try.prog 27 = some [Value.tuple #[Value.slice none 0 0, Value.int IntKind.i64 (0)]] := by kernel_rfl
theorem es_27 : eszA Try.prog 27 = some 1 := by kernel_rfl
theorem u_28 : Try.prog.underlying 28 = some (TypeDesc.func #[9] #[22, 3] false) := by kernel_rfl
theorem ag_28 : isAggA Try.prog 28 = some false := by kernel_rfl
theorem sz_28 : sizeA Try.prog 28 = some 1 := by kernel_rfl
theorem by_28 : bytesA Try.prog 28 = some 8 := by kernel_rfl
theorem ze_28 : zeroA Try.prog 28 = some [Value.nilFunc] := by kernel_rfl
theorem es_28 : eszA Try.prog 28 = some 1 := by kernel_rfl
theorem u_29 : Try.prog.underlying 29 = some (TypeDesc.func #[22, 22] #[4] false) := by kernel_rfl
theorem ag_29 : isAggA Try.prog 29 = some false := by kernel_rfl
theorem sz_29 : sizeA Try.prog 29 = some 1 := by kernel_rfl
theorem by_29 : bytesA Try.prog 29 = some 8 := by kernel_rfl
theorem ze_29 : zeroA Try.prog 29 = some [Value.nilFunc] := by kernel_rfl
theorem es_29 : eszA Try.prog 29 = some 1 := by kernel_rfl
theorem u_30 : Try.prog.underlying 30 = some (TypeDesc.func #[22, 3] #[4] false) := by kernel_rfl
theorem ag_30 : isAggA Try.prog 30 = some false := by kernel_rfl
theorem sz_30 : sizeA Try.prog 30 = some 1 := by kernel_rfl
theorem by_30 : bytesA Try.prog 30 = some 8 := by kernel_rfl
theorem ze_30 : zeroA Try.prog 30 = some [Value.nilFunc] := by kernel_rfl
theorem es_30 : eszA Try.prog 30 = some 1 := by kernel_rfl
theorem u_31 : Try.prog.underlying 31 = some (TypeDesc.func #[22] #[23] false) := by kernel_rfl
theorem ag_31 : isAggA Try.prog 31 = some false := by kernel_rfl
theorem sz_31 : sizeA Try.prog 31 = some 1 := by kernel_rfl
theorem by_31 : bytesA Try.prog 31 = some 8 := by kernel_rfl
theorem ze_31 : zeroA Try.prog 31 = some [Value.nilFunc] := by kernel_rfl
theorem es_31 : eszA Try.prog 31 = some 1 := by kernel_rfl
theorem u_32 : Try.prog.underlying 32 = some (TypeDesc.tuple #[22, 23]) := by kernel_rfl
theorem ag_32 : isAggA Try.prog 32 = some false := by kernel_rfl
theorem sz_32 : sizeA Try.prog 32 = some 1 := by kernel_rfl
theorem by_32 : bytesA Try.prog 32 = some 0 := by kernel_rfl
theorem ze_32 : zeroA Try.prog 32 = some [Value.tuple #[Value.slice none 0 0, Value.int IntKind.i64 (0)]] := by kernel_rfl
theorem es_32 : eszA Try.prog 32 = some 1 := by kernel_rfl
theorem u_33 : Try.prog.underlying 33 = some (TypeDesc.func #[9] #[22, 23] false) := by kernel_rfl
theorem ag_33 : isAggA Try.prog 33 = some false := by kernel_rfl
theorem sz_33 : sizeA Try.prog 33 = some 1 := by kernel_rfl
theorem by_33 : bytesA Try.prog 33 = some 8 := by kernel_rfl
theorem ze_33 : zeroA Try.prog 33 = some [Value.nilFunc] := by kernel_rfl
theorem es_33 : eszA Try.prog 33 = some 1 := by kernel_rfl
theorem u_34 : Try.prog.underlying 34 = some (TypeDesc.func #[22] #[4] false) := by kernel_rfl
theorem ag_34 : isAggA Try.prog 34 = some false := by kernel_rfl
theorem sz_34 : sizeA Try.prog 34 = some 1 := by kernel_rfl
theorem by_34 : bytesA Try.prog 34 = some 8 := by kernel_rfl
theorem ze_34 : zeroA Try.prog 34 = some [Value.nilFunc] := by kernel_rfl
theorem es_34 : eszA Try.prog 34 = some 1 := by kernel_rfl
theorem u_35 : Try.prog.underlying 35 = some (TypeDesc.struct #[{ name := "Time", type := 3, offset := 0, embedded := false, tag := "", pkgPath := "", byteOffset := 0 }, { name := "Node", type := 3, offset := 1, embedded := false, tag := "", pkgPath := "", byteOffset := 8 }, { name := "Port", type := 3, offset := 2, embedded := false, tag := "", pkgPath := "", byteOffset := 16 }, { name := "Out", type := 4, offset := 3, embedded := false, tag := "", pkgPath := "", byteOffset := 24 }, { name := "Bytes", type := 9, offset := 4, embedded := false, tag := "", pkgPath := "", byteOffset := 32 }]) := by kernel_rfl
theorem f_35_0 : fieldA Try.prog 35 0 = some (0, 3) := by kernel_rfl
theorem f_35_1 : fieldA Try.prog 35 1 = some (1, 3) := by kernel_rfl
theorem f_35_2 : fieldA Try.prog 35 2 = some (2, 3) := by kernel_rfl
theorem f_35_3 : fieldA Try.prog 35 3 = some (3, 4) := by kernel_rfl
theorem f_35_4 : fieldA Try.prog 35 4 = some (4, 9) := by kernel_rfl
theorem ag_35 : isAggA Try.prog 35 = some true := by kernel_rfl
theorem sz_35 : sizeA Try.prog 35 = some 5 := by kernel_rfl
theorem by_35 : bytesA Try.prog 35 = some 48 := by kernel_rfl
theorem ze_35 : zeroA Try.prog 35 = some [Value.int IntKind.i64 (0), Value.int IntKind.i64 (0), Value.int IntKind.i64 (0), Value.bool false, Value.string ⟨#[]⟩] := by kernel_rfl
theorem pl_35 : placesA Try.prog 35 = some [(0, 1), (1, 1), (2, 1), (3, 1), (4, 1)] := by kernel_rfl
theorem es_35 : eszA Try.prog 35 = some 5 := by kernel_rfl
theorem u_36 : Try.prog.underlying 36 = some (TypeDesc.struct #[{ name := "Time", type := 3, offset := 0, embedded := false, tag := "", pkgPath := "", byteOffset := 0 }, { name := "Node", type := 3, offset := 1, embedded := false, tag := "", pkgPath := "", byteOffset := 8 }, { name := "Port", type := 3, offset := 2, embedded := false, tag := "", pkgPath := "", byteOffset := 16 }, { name := "Out", type := 4, offset := 3, embedded := false, tag := "", pkgPath := "", byteOffset := 24 }, { name := "Bytes", type := 9, offset := 4, embedded := false, tag := "", pkgPath := "", byteOffset := 32 }]) := by kernel_rfl
theorem f_36_0 : fieldA Try.prog 36 0 = some (0, 3) := by kernel_rfl
theorem f_36_1 : fieldA Try.prog 36 1 = some (1, 3) := by kernel_rfl
theorem f_36_2 : fieldA Try.prog 36 2 = some (2, 3) := by kernel_rfl
theorem f_36_3 : fieldA Try.prog 36 3 = some (3, 4) := by kernel_rfl
theorem f_36_4 : fieldA Try.prog 36 4 = some (4, 9) := by kernel_rfl
theorem ag_36 : isAggA Try.prog 36 = some true := by kernel_rfl
theorem sz_36 : sizeA Try.prog 36 = some 5 := by kernel_rfl
theorem by_36 : bytesA Try.prog 36 = some 48 := by kernel_rfl
theorem ze_36 : zeroA Try.prog 36 = some [Value.int IntKind.i64 (0), Value.int IntKind.i64 (0), Value.int IntKind.i64 (0), Value.bool false, Value.string ⟨#[]⟩] := by kernel_rfl
theorem pl_36 : placesA Try.prog 36 = some [(0, 1), (1, 1), (2, 1), (3, 1), (4, 1)] := by kernel_rfl
theorem es_36 : eszA Try.prog 36 = some 5 := by kernel_rfl
theorem u_37 : Try.prog.underlying 37 = some (TypeDesc.slice 5) := by kernel_rfl
theorem ag_37 : isAggA Try.prog 37 = some false := by kernel_rfl
theorem sz_37 : sizeA Try.prog 37 = some 1 := by kernel_rfl
theorem by_37 : bytesA Try.prog 37 = some 24 := by kernel_rfl
theorem ze_37 : zeroA Try.prog 37 = some [Value.slice none 0 0] := by kernel_rfl
theorem es_37 : eszA Try.prog 37 = some 1 := by kernel_rfl
theorem u_38 : Try.prog.underlying 38 = some (TypeDesc.func #[22, 3, 3, 3] #[4] false) := by kernel_rfl
theorem ag_38 : isAggA Try.prog 38 = some false := by kernel_rfl
theorem sz_38 : sizeA Try.prog 38 = some 1 := by kernel_rfl
theorem by_38 : bytesA Try.prog 38 = some 8 := by kernel_rfl
theorem ze_38 : zeroA Try.prog 38 = some [Value.nilFunc] := by kernel_rfl
theorem es_38 : eszA Try.prog 38 = some 1 := by kernel_rfl
theorem u_39 : Try.prog.underlying 39 = some (TypeDesc.func #[22, 22] #[22, 23] false) := by kernel_rfl
theorem ag_39 : isAggA Try.prog 39 = some false := by kernel_rfl
theorem sz_39 : sizeA Try.prog 39 = some 1 := by kernel_rfl
theorem by_39 : bytesA Try.prog 39 = some 8 := by kernel_rfl
theorem ze_39 : zeroA Try.prog 39 = some [Value.nilFunc] := by kernel_rfl
theorem es_39 : eszA Try.prog 39 = some 1 := by kernel_rfl
theorem u_40 : Try.prog.underlying 40 = some (TypeDesc.func #[36, 3] #[9] false) := by kernel_rfl
theorem ag_40 : isAggA Try.prog 40 = some false := by kernel_rfl
theorem sz_40 : sizeA Try.prog 40 = some 1 := by kernel_rfl
theorem by_40 : bytesA Try.prog 40 = some 8 := by kernel_rfl
theorem ze_40 : zeroA Try.prog 40 = some [Value.nilFunc] := by kernel_rfl
theorem es_40 : eszA Try.prog 40 = some 1 := by kernel_rfl
theorem u_41 : Try.prog.underlying 41 = some (TypeDesc.tuple #[36, 3, 4]) := by kernel_rfl
theorem ag_41 : isAggA Try.prog 41 = some false := by kernel_rfl
theorem sz_41 : sizeA Try.prog 41 = some 1 := by kernel_rfl
theorem by_41 : bytesA Try.prog 41 = some 0 := by kernel_rfl
theorem ze_41 : zeroA Try.prog 41 = some [Value.tuple #[Value.agg #[Value.int IntKind.i64 (0), Value.int IntKind.i64 (0), Value.int IntKind.i64 (0), Value.bool false, Value.string ⟨#[]⟩], Value.int IntKind.i64 (0), Value.bool false]] := by kernel_rfl
theorem es_41 : eszA Try.prog 41 = some 1 := by kernel_rfl
theorem u_42 : Try.prog.underlying 42 = some (TypeDesc.func #[9, 3] #[36, 3, 4] false) := by kernel_rfl
theorem ag_42 : isAggA Try.prog 42 = some false := by kernel_rfl
theorem sz_42 : sizeA Try.prog 42 = some 1 := by kernel_rfl
theorem by_42 : bytesA Try.prog 42 = some 8 := by kernel_rfl
theorem ze_42 : zeroA Try.prog 42 = some [Value.nilFunc] := by kernel_rfl
theorem es_42 : eszA Try.prog 42 = some 1 := by kernel_rfl
theorem u_43 : Try.prog.underlying 43 = some (TypeDesc.func #[9] #[3] false) := by kernel_rfl
theorem ag_43 : isAggA Try.prog 43 = some false := by kernel_rfl
theorem sz_43 : sizeA Try.prog 43 = some 1 := by kernel_rfl
theorem by_43 : bytesA Try.prog 43 = some 8 := by kernel_rfl
theorem ze_43 : zeroA Try.prog 43 = some [Value.nilFunc] := by kernel_rfl
theorem es_43 : eszA Try.prog 43 = some 1 := by kernel_rfl
theorem u_44 : Try.prog.underlying 44 = some (TypeDesc.slice 22) := by kernel_rfl
theorem ag_44 : isAggA Try.prog 44 = some false := by kernel_rfl
theorem sz_44 : sizeA Try.prog 44 = some 1 := by kernel_rfl
theorem by_44 : bytesA Try.prog 44 = some 24 := by kernel_rfl
theorem ze_44 : zeroA Try.prog 44 = some [Value.slice none 0 0] := by kernel_rfl
theorem es_44 : eszA Try.prog 44 = some 1 := by kernel_rfl
theorem u_45 : Try.prog.underlying 45 = some (TypeDesc.func #[44] #[22] true) := by kernel_rfl
theorem ag_45 : isAggA Try.prog 45 = some false := by kernel_rfl
theorem sz_45 : sizeA Try.prog 45 = some 1 := by kernel_rfl
theorem by_45 : bytesA Try.prog 45 = some 8 := by kernel_rfl
theorem ze_45 : zeroA Try.prog 45 = some [Value.nilFunc] := by kernel_rfl
theorem es_45 : eszA Try.prog 45 = some 1 := by kernel_rfl
theorem u_46 : Try.prog.underlying 46 = some (TypeDesc.func #[22, 47] #[] false) := by kernel_rfl
theorem ag_46 : isAggA Try.prog 46 = some false := by kernel_rfl
theorem sz_46 : sizeA Try.prog 46 = some 1 := by kernel_rfl
theorem by_46 : bytesA Try.prog 46 = some 8 := by kernel_rfl
theorem ze_46 : zeroA Try.prog 46 = some [Value.nilFunc] := by kernel_rfl
theorem es_46 : eszA Try.prog 46 = some 1 := by kernel_rfl
theorem u_47 : Try.prog.underlying 47 = some (TypeDesc.func #[36, 36] #[3] false) := by kernel_rfl
theorem ag_47 : isAggA Try.prog 47 = some false := by kernel_rfl
theorem sz_47 : sizeA Try.prog 47 = some 1 := by kernel_rfl
theorem by_47 : bytesA Try.prog 47 = some 8 := by kernel_rfl
theorem ze_47 : zeroA Try.prog 47 = some [Value.nilFunc] := by kernel_rfl
theorem es_47 : eszA Try.prog 47 = some 1 := by kernel_rfl
theorem u_48 : Try.prog.underlying 48 = some (TypeDesc.int IntKind.u64) := by kernel_rfl
theorem ag_48 : isAggA Try.prog 48 = some false := by kernel_rfl
theorem sz_48 : sizeA Try.prog 48 = some 1 := by kernel_rfl
theorem by_48 : bytesA Try.prog 48 = some 8 := by kernel_rfl
theorem ze_48 : zeroA Try.prog 48 = some [Value.int IntKind.u64 (0)] := by kernel_rfl
theorem es_48 : eszA Try.prog 48 = some 1 := by kernel_rfl
theorem u_49 : Try.prog.underlying 49 = some (TypeDesc.func #[3, 3] #[9] false) := by kernel_rfl
theorem ag_49 : isAggA Try.prog 49 = some false := by kernel_rfl
theorem sz_49 : sizeA Try.prog 49 = some 1 := by kernel_rfl
theorem by_49 : bytesA Try.prog 49 = some 8 := by kernel_rfl
theorem ze_49 : zeroA Try.prog 49 = some [Value.nilFunc] := by kernel_rfl
theorem es_49 : eszA Try.prog 49 = some 1 := by kernel_rfl
theorem u_50 : Try.prog.underlying 50 = some (TypeDesc.int IntKind.u32) := by kernel_rfl
theorem ag_50 : isAggA Try.prog 50 = some false := by kernel_rfl
theorem sz_50 : sizeA Try.prog 50 = some 1 := by kernel_rfl
theorem by_50 : bytesA Try.prog 50 = some 4 := by kernel_rfl
theorem ze_50 : zeroA Try.prog 50 = some [Value.int IntKind.u32 (0)] := by kernel_rfl
theorem es_50 : eszA Try.prog 50 = some 1 := by kernel_rfl
theorem u_51 : Try.prog.underlying 51 = some (TypeDesc.func #[9] #[50] false) := by kernel_rfl
theorem ag_51 : isAggA Try.prog 51 = some false := by kernel_rfl
theorem sz_51 : sizeA Try.prog 51 = some 1 := by kernel_rfl
theorem by_51 : bytesA Try.prog 51 = some 8 := by kernel_rfl
theorem ze_51 : zeroA Try.prog 51 = some [Value.nilFunc] := by kernel_rfl
theorem es_51 : eszA Try.prog 51 = some 1 := by kernel_rfl
theorem u_52 : Try.prog.underlying 52 = some (TypeDesc.func #[22, 3] #[22] false) := by kernel_rfl
theorem ag_52 : isAggA Try.prog 52 = some false := by kernel_rfl
theorem sz_52 : sizeA Try.prog 52 = some 1 := by kernel_rfl
theorem by_52 : bytesA Try.prog 52 = some 8 := by kernel_rfl
theorem ze_52 : zeroA Try.prog 52 = some [Value.nilFunc] := by kernel_rfl
theorem es_52 : eszA Try.prog 52 = some 1 := by kernel_rfl
theorem u_53 : Try.prog.underlying 53 = some (TypeDesc.func #[22, 3, 47] #[] false) := by kernel_rfl
theorem ag_53 : isAggA Try.prog 53 = some false := by kernel_rfl
theorem sz_53 : sizeA Try.prog 53 = some 1 := by kernel_rfl
theorem by_53 : bytesA Try.prog 53 = some 8 := by kernel_rfl
theorem ze_53 : zeroA Try.prog 53 = some [Value.nilFunc] := by kernel_rfl
theorem es_53 : eszA Try.prog 53 = some 1 := by kernel_rfl
theorem u_54 : Try.prog.underlying 54 = some (TypeDesc.array 256 50) := by kernel_rfl
theorem ag_54 : isAggA Try.prog 54 = some true := by kernel_rfl
theorem sz_54 : sizeA Try.prog 54 = some 256 := by kernel_rfl
theorem by_54 : bytesA Try.prog 54 = some 1024 := by kernel_rfl
theorem ze_54 : zeroA Try.prog 54 = some (List.replicate 256 (Value.int IntKind.u32 (0))) := by kernel_rfl
theorem es_54 : eszA Try.prog 54 = some 1 := by kernel_rfl
theorem u_55 : Try.prog.underlying 55 = some (TypeDesc.func #[] #[54] false) := by kernel_rfl
theorem ag_55 : isAggA Try.prog 55 = some false := by kernel_rfl
theorem sz_55 : sizeA Try.prog 55 = some 1 := by kernel_rfl
theorem by_55 : bytesA Try.prog 55 = some 8 := by kernel_rfl
theorem ze_55 : zeroA Try.prog 55 = some [Value.nilFunc] := by kernel_rfl
theorem es_55 : eszA Try.prog 55 = some 1 := by kernel_rfl
theorem u_56 : Try.prog.underlying 56 = some (TypeDesc.func #[22, 3, 3, 47] #[] false) := by kernel_rfl
theorem ag_56 : isAggA Try.prog 56 = some false := by kernel_rfl
theorem sz_56 : sizeA Try.prog 56 = some 1 := by kernel_rfl
theorem by_56 : bytesA Try.prog 56 = some 8 := by kernel_rfl
theorem ze_56 : zeroA Try.prog 56 = some [Value.nilFunc] := by kernel_rfl
theorem es_56 : eszA Try.prog 56 = some 1 := by kernel_rfl
theorem u_57 : Try.prog.underlying 57 = some (TypeDesc.func #[22, 3, 3, 3, 47] #[] false) := by kernel_rfl
theorem ag_57 : isAggA Try.prog 57 = some false := by kernel_rfl
theorem sz_57 : sizeA Try.prog 57 = some 1 := by kernel_rfl
theorem by_57 : bytesA Try.prog 57 = some 8 := by kernel_rfl
theorem ze_57 : zeroA Try.prog 57 = some [Value.nilFunc] := by kernel_rfl
theorem es_57 : eszA Try.prog 57 = some 1 := by kernel_rfl
theorem u_58 : Try.prog.underlying 58 = some (TypeDesc.func #[50] #[50] false) := by kernel_rfl
theorem ag_58 : isAggA Try.prog 58 = some false := by kernel_rfl
theorem sz_58 : sizeA Try.prog 58 = some 1 := by kernel_rfl
theorem by_58 : bytesA Try.prog 58 = some 8 := by kernel_rfl
theorem ze_58 : zeroA Try.prog 58 = some [Value.nilFunc] := by kernel_rfl
theorem es_58 : eszA Try.prog 58 = some 1 := by kernel_rfl
theorem u_59 : Try.prog.underlying 59 = some (TypeDesc.func #[] #[9] false) := by kernel_rfl
theorem ag_59 : isAggA Try.prog 59 = some false := by kernel_rfl
theorem sz_59 : sizeA Try.prog 59 = some 1 := by kernel_rfl
theorem by_59 : bytesA Try.prog 59 = some 8 := by kernel_rfl
theorem ze_59 : zeroA Try.prog 59 = some [Value.nilFunc] := by kernel_rfl
theorem es_59 : eszA Try.prog 59 = some 1 := by kernel_rfl
theorem u_60 : Try.prog.underlying 60 = some (TypeDesc.struct #[{ name := "_interface", type := 17, offset := 0, embedded := false, tag := "", pkgPath := "runtime", byteOffset := 0 }, { name := "concrete", type := 17, offset := 1, embedded := false, tag := "", pkgPath := "runtime", byteOffset := 8 }, { name := "asserted", type := 17, offset := 2, embedded := false, tag := "", pkgPath := "runtime", byteOffset := 16 }, { name := "missingMethod", type := 9, offset := 3, embedded := false, tag := "", pkgPath := "runtime", byteOffset := 24 }]) := by kernel_rfl
theorem f_60_0 : fieldA Try.prog 60 0 = some (0, 17) := by kernel_rfl
theorem f_60_1 : fieldA Try.prog 60 1 = some (1, 17) := by kernel_rfl
theorem f_60_2 : fieldA Try.prog 60 2 = some (2, 17) := by kernel_rfl
theorem f_60_3 : fieldA Try.prog 60 3 = some (3, 9) := by kernel_rfl
theorem ag_60 : isAggA Try.prog 60 = some true := by kernel_rfl
theorem sz_60 : sizeA Try.prog 60 = some 4 := by kernel_rfl
theorem by_60 : bytesA Try.prog 60 = some 40 := by kernel_rfl
theorem ze_60 : zeroA Try.prog 60 = some [Value.pointer none, Value.pointer none, Value.pointer none, Value.string ⟨#[]⟩] := by kernel_rfl
theorem pl_60 : placesA Try.prog 60 = some [(0, 1), (1, 1), (2, 1), (3, 1)] := by kernel_rfl
theorem es_60 : eszA Try.prog 60 = some 4 := by kernel_rfl
theorem u_61 : Try.prog.underlying 61 = some (TypeDesc.struct #[{ name := "_interface", type := 17, offset := 0, embedded := false, tag := "", pkgPath := "runtime", byteOffset := 0 }, { name := "concrete", type := 17, offset := 1, embedded := false, tag := "", pkgPath := "runtime", byteOffset := 8 }, { name := "asserted", type := 17, offset := 2, embedded := false, tag := "", pkgPath := "runtime", byteOffset := 16 }, { name := "missingMethod", type := 9, offset := 3, embedded := false, tag := "", pkgPath := "runtime", byteOffset := 24 }]) := by kernel_rfl
theorem f_61_0 : fieldA Try.prog 61 0 = some (0, 17) := by kernel_rfl
theorem f_61_1 : fieldA Try.prog 61 1 = some (1, 17) := by kernel_rfl
theorem f_61_2 : fieldA Try.prog 61 2 = some (2, 17) := by kernel_rfl
theorem f_61_3 : fieldA Try.prog 61 3 = some (3, 9) := by kernel_rfl
theorem ag_61 : isAggA Try.prog 61 = some true := by kernel_rfl
theorem sz_61 : sizeA Try.prog 61 = some 4 := by kernel_rfl
theorem by_61 : bytesA Try.prog 61 = some 40 := by kernel_rfl
theorem ze_61 : zeroA Try.prog 61 = some [Value.pointer none, Value.pointer none, Value.pointer none, Value.string ⟨#[]⟩] := by kernel_rfl
theorem pl_61 : placesA Try.prog 61 = some [(0, 1), (1, 1), (2, 1), (3, 1)] := by kernel_rfl
theorem es_61 : eszA Try.prog 61 = some 4 := by kernel_rfl
theorem u_62 : Try.prog.underlying 62 = some (TypeDesc.array 0 16) := by kernel_rfl
theorem ag_62 : isAggA Try.prog 62 = some true := by kernel_rfl
theorem sz_62 : sizeA Try.prog 62 = some 0 := by kernel_rfl
theorem by_62 : bytesA Try.prog 62 = some 0 := by kernel_rfl
theorem ze_62 : zeroA Try.prog 62 = some [] := by kernel_rfl
theorem es_62 : eszA Try.prog 62 = some 1 := by kernel_rfl
theorem u_63 : Try.prog.underlying 63 = some (TypeDesc.struct #[{ name := "_", type := 62, offset := 0, embedded := false, tag := "", pkgPath := "runtime", byteOffset := 0 }]) := by kernel_rfl
theorem f_63_0 : fieldA Try.prog 63 0 = some (0, 62) := by kernel_rfl
theorem ag_63 : isAggA Try.prog 63 = some true := by kernel_rfl
theorem sz_63 : sizeA Try.prog 63 = some 0 := by kernel_rfl
theorem by_63 : bytesA Try.prog 63 = some 0 := by kernel_rfl
theorem ze_63 : zeroA Try.prog 63 = some [] := by kernel_rfl
theorem pl_63 : placesA Try.prog 63 = some [(0, 0)] := by kernel_rfl
theorem es_63 : eszA Try.prog 63 = some 0 := by kernel_rfl
theorem u_64 : Try.prog.underlying 64 = some (TypeDesc.struct #[{ name := "_", type := 62, offset := 0, embedded := false, tag := "", pkgPath := "runtime", byteOffset := 0 }]) := by kernel_rfl
theorem f_64_0 : fieldA Try.prog 64 0 = some (0, 62) := by kernel_rfl
theorem ag_64 : isAggA Try.prog 64 = some true := by kernel_rfl
theorem sz_64 : sizeA Try.prog 64 = some 0 := by kernel_rfl
theorem by_64 : bytesA Try.prog 64 = some 0 := by kernel_rfl
theorem ze_64 : zeroA Try.prog 64 = some [] := by kernel_rfl
theorem pl_64 : placesA Try.prog 64 = some [(0, 0)] := by kernel_rfl
theorem es_64 : eszA Try.prog 64 = some 0 := by kernel_rfl
theorem u_65 : Try.prog.underlying 65 = some (TypeDesc.func #[] #[3] false) := by kernel_rfl
theorem ag_65 : isAggA Try.prog 65 = some false := by kernel_rfl
theorem sz_65 : sizeA Try.prog 65 = some 1 := by kernel_rfl
theorem by_65 : bytesA Try.prog 65 = some 8 := by kernel_rfl
theorem ze_65 : zeroA Try.prog 65 = some [Value.nilFunc] := by kernel_rfl
theorem es_65 : eszA Try.prog 65 = some 1 := by kernel_rfl
theorem u_66 : Try.prog.underlying 66 = some (TypeDesc.int IntKind.u8) := by kernel_rfl
theorem ag_66 : isAggA Try.prog 66 = some false := by kernel_rfl
theorem sz_66 : sizeA Try.prog 66 = some 1 := by kernel_rfl
theorem by_66 : bytesA Try.prog 66 = some 1 := by kernel_rfl
theorem ze_66 : zeroA Try.prog 66 = some [Value.int IntKind.u8 (0)] := by kernel_rfl
theorem u8_66 : isU8 Try.prog 66 = true := by kernel_rfl
theorem es_66 : eszA Try.prog 66 = some 1 := by kernel_rfl
theorem u_67 : Try.prog.underlying 67 = some (TypeDesc.int IntKind.u8) := by kernel_rfl
theorem ag_67 : isAggA Try.prog 67 = some false := by kernel_rfl
theorem sz_67 : sizeA Try.prog 67 = some 1 := by kernel_rfl
theorem by_67 : bytesA Try.prog 67 = some 1 := by kernel_rfl
theorem ze_67 : zeroA Try.prog 67 = some [Value.int IntKind.u8 (0)] := by kernel_rfl
theorem u8_67 : isU8 Try.prog 67 = true := by kernel_rfl
theorem es_67 : eszA Try.prog 67 = some 1 := by kernel_rfl
theorem u_68 : Try.prog.underlying 68 = some (TypeDesc.func #[74, 74] #[4] false) := by kernel_rfl
theorem ag_68 : isAggA Try.prog 68 = some false := by kernel_rfl
theorem sz_68 : sizeA Try.prog 68 = some 1 := by kernel_rfl
theorem by_68 : bytesA Try.prog 68 = some 8 := by kernel_rfl
theorem ze_68 : zeroA Try.prog 68 = some [Value.nilFunc] := by kernel_rfl
theorem es_68 : eszA Try.prog 68 = some 1 := by kernel_rfl
theorem u_69 : Try.prog.underlying 69 = some (TypeDesc.pointer 5) := by kernel_rfl
theorem ag_69 : isAggA Try.prog 69 = some false := by kernel_rfl
theorem sz_69 : sizeA Try.prog 69 = some 1 := by kernel_rfl
theorem by_69 : bytesA Try.prog 69 = some 8 := by kernel_rfl
theorem ze_69 : zeroA Try.prog 69 = some [Value.pointer none] := by kernel_rfl
theorem es_69 : eszA Try.prog 69 = some 1 := by kernel_rfl
theorem u_70 : Try.prog.underlying 70 = some (TypeDesc.int IntKind.i32) := by kernel_rfl
theorem ag_70 : isAggA Try.prog 70 = some false := by kernel_rfl
theorem sz_70 : sizeA Try.prog 70 = some 1 := by kernel_rfl
theorem by_70 : bytesA Try.prog 70 = some 4 := by kernel_rfl
theorem ze_70 : zeroA Try.prog 70 = some [Value.int IntKind.i32 (0)] := by kernel_rfl
theorem es_70 : eszA Try.prog 70 = some 1 := by kernel_rfl
theorem u_71 : Try.prog.underlying 71 = some (TypeDesc.int IntKind.i32) := by kernel_rfl
theorem ag_71 : isAggA Try.prog 71 = some false := by kernel_rfl
theorem sz_71 : sizeA Try.prog 71 = some 1 := by kernel_rfl
theorem by_71 : bytesA Try.prog 71 = some 4 := by kernel_rfl
theorem ze_71 : zeroA Try.prog 71 = some [Value.int IntKind.i32 (0)] := by kernel_rfl
theorem es_71 : eszA Try.prog 71 = some 1 := by kernel_rfl
theorem u_72 : Try.prog.underlying 72 = some (TypeDesc.struct #[{ name := "Size_", type := 12, offset := 0, embedded := false, tag := "", pkgPath := "", byteOffset := 0 }, { name := "PtrBytes", type := 12, offset := 1, embedded := false, tag := "", pkgPath := "", byteOffset := 8 }, { name := "Hash", type := 50, offset := 2, embedded := false, tag := "", pkgPath := "", byteOffset := 16 }, { name := "TFlag", type := 66, offset := 3, embedded := false, tag := "", pkgPath := "", byteOffset := 20 }, { name := "Align_", type := 5, offset := 4, embedded := false, tag := "", pkgPath := "", byteOffset := 21 }, { name := "FieldAlign_", type := 5, offset := 5, embedded := false, tag := "", pkgPath := "", byteOffset := 22 }, { name := "Kind_", type := 67, offset := 6, embedded := false, tag := "", pkgPath := "", byteOffset := 23 }, { name := "Equal", type := 68, offset := 7, embedded := false, tag := "", pkgPath := "", byteOffset := 24 }, { name := "GCData", type := 69, offset := 8, embedded := false, tag := "", pkgPath := "", byteOffset := 32 }, { name := "Str", type := 70, offset := 9, embedded := false, tag := "", pkgPath := "", byteOffset := 40 }, { name := "PtrToThis", type := 71, offset := 10, embedded := false, tag := "", pkgPath := "", byteOffset := 44 }]) := by kernel_rfl
theorem f_72_0 : fieldA Try.prog 72 0 = some (0, 12) := by kernel_rfl
theorem f_72_1 : fieldA Try.prog 72 1 = some (1, 12) := by kernel_rfl
theorem f_72_2 : fieldA Try.prog 72 2 = some (2, 50) := by kernel_rfl
theorem f_72_3 : fieldA Try.prog 72 3 = some (3, 66) := by kernel_rfl
theorem f_72_4 : fieldA Try.prog 72 4 = some (4, 5) := by kernel_rfl
theorem f_72_5 : fieldA Try.prog 72 5 = some (5, 5) := by kernel_rfl
theorem f_72_6 : fieldA Try.prog 72 6 = some (6, 67) := by kernel_rfl
theorem f_72_7 : fieldA Try.prog 72 7 = some (7, 68) := by kernel_rfl
theorem f_72_8 : fieldA Try.prog 72 8 = some (8, 69) := by kernel_rfl
theorem f_72_9 : fieldA Try.prog 72 9 = some (9, 70) := by kernel_rfl
theorem f_72_10 : fieldA Try.prog 72 10 = some (10, 71) := by kernel_rfl
theorem ag_72 : isAggA Try.prog 72 = some true := by kernel_rfl
theorem sz_72 : sizeA Try.prog 72 = some 11 := by kernel_rfl
theorem by_72 : bytesA Try.prog 72 = some 48 := by kernel_rfl
theorem ze_72 : zeroA Try.prog 72 = some [Value.int IntKind.u64 (0), Value.int IntKind.u64 (0), Value.int IntKind.u32 (0), Value.int IntKind.u8 (0), Value.int IntKind.u8 (0), Value.int IntKind.u8 (0), Value.int IntKind.u8 (0), Value.nilFunc, Value.pointer none, Value.int IntKind.i32 (0), Value.int IntKind.i32 (0)] := by kernel_rfl
theorem pl_72 : placesA Try.prog 72 = some [(0, 1), (1, 1), (2, 1), (3, 1), (4, 1), (5, 1), (6, 1), (7, 1), (8, 1), (9, 1), (10, 1)] := by kernel_rfl
theorem es_72 : eszA Try.prog 72 = some 11 := by kernel_rfl
theorem u_73 : Try.prog.underlying 73 = some (TypeDesc.struct #[{ name := "Size_", type := 12, offset := 0, embedded := false, tag := "", pkgPath := "", byteOffset := 0 }, { name := "PtrBytes", type := 12, offset := 1, embedded := false, tag := "", pkgPath := "", byteOffset := 8 }, { name := "Hash", type := 50, offset := 2, embedded := false, tag := "", pkgPath := "", byteOffset := 16 }, { name := "TFlag", type := 66, offset := 3, embedded := false, tag := "", pkgPath := "", byteOffset := 20 }, { name := "Align_", type := 5, offset := 4, embedded := false, tag := "", pkgPath := "", byteOffset := 21 }, { name := "FieldAlign_", type := 5, offset := 5, embedded := false, tag := "", pkgPath := "", byteOffset := 22 }, { name := "Kind_", type := 67, offset := 6, embedded := false, tag := "", pkgPath := "", byteOffset := 23 }, { name := "Equal", type := 68, offset := 7, embedded := false, tag := "", pkgPath := "", byteOffset := 24 }, { name := "GCData", type := 69, offset := 8, embedded := false, tag := "", pkgPath := "", byteOffset := 32 }, { name := "Str", type := 70, offset := 9, embedded := false, tag := "", pkgPath := "", byteOffset := 40 }, { name := "PtrToThis", type := 71, offset := 10, embedded := false, tag := "", pkgPath := "", byteOffset := 44 }]) := by kernel_rfl
theorem f_73_0 : fieldA Try.prog 73 0 = some (0, 12) := by kernel_rfl
theorem f_73_1 : fieldA Try.prog 73 1 = some (1, 12) := by kernel_rfl
theorem f_73_2 : fieldA Try.prog 73 2 = some (2, 50) := by kernel_rfl
theorem f_73_3 : fieldA Try.prog 73 3 = some (3, 66) := by kernel_rfl
theorem f_73_4 : fieldA Try.prog 73 4 = some (4, 5) := by kernel_rfl
theorem f_73_5 : fieldA Try.prog 73 5 = some (5, 5) := by kernel_rfl
theorem f_73_6 : fieldA Try.prog 73 6 = some (6, 67) := by kernel_rfl
theorem f_73_7 : fieldA Try.prog 73 7 = some (7, 68) := by kernel_rfl
theorem f_73_8 : fieldA Try.prog 73 8 = some (8, 69) := by kernel_rfl
theorem f_73_9 : fieldA Try.prog 73 9 = some (9, 70) := by kernel_rfl
theorem f_73_10 : fieldA Try.prog 73 10 = some (10, 71) := by kernel_rfl
theorem ag_73 : isAggA Try.prog 73 = some true := by kernel_rfl
theorem sz_73 : sizeA Try.prog 73 = some 11 := by kernel_rfl
theorem by_73 : bytesA Try.prog 73 = some 48 := by kernel_rfl
theorem ze_73 : zeroA Try.prog 73 = some [Value.int IntKind.u64 (0), Value.int IntKind.u64 (0), Value.int IntKind.u32 (0), Value.int IntKind.u8 (0), Value.int IntKind.u8 (0), Value.int IntKind.u8 (0), Value.int IntKind.u8 (0), Value.nilFunc, Value.pointer none, Value.int IntKind.i32 (0), Value.int IntKind.i32 (0)] := by kernel_rfl
theorem pl_73 : placesA Try.prog 73 = some [(0, 1), (1, 1), (2, 1), (3, 1), (4, 1), (5, 1), (6, 1), (7, 1), (8, 1), (9, 1), (10, 1)] := by kernel_rfl
theorem es_73 : eszA Try.prog 73 = some 11 := by kernel_rfl
theorem u_74 : Try.prog.underlying 74 = some TypeDesc.unsafePointer := by kernel_rfl
theorem ag_74 : isAggA Try.prog 74 = some false := by kernel_rfl
theorem sz_74 : sizeA Try.prog 74 = some 1 := by kernel_rfl
theorem by_74 : bytesA Try.prog 74 = some 8 := by kernel_rfl
theorem ze_74 : zeroA Try.prog 74 = some [Value.pointer none] := by kernel_rfl
theorem es_74 : eszA Try.prog 74 = some 1 := by kernel_rfl
theorem tys : ((((((((((Try.prog.underlying 0 = some (TypeDesc.tuple #[])) ∧ (isAggA Try.prog 0 = some false)) ∧ ((sizeA Try.prog 0 = some 1) ∧ (bytesA Try.prog 0 = some 0))) ∧ (((zeroA Try.prog 0 = some [Value.tuple #[]]) ∧ (eszA Try.prog 0 = some 1)) ∧ ((Try.prog.underlying 1 = some (TypeDesc.func #[] #[] false)) ∧ (isAggA Try.prog 1 = some false)))) ∧ ((((sizeA Try.prog 1 = some 1) ∧ (bytesA Try.prog 1 = some 8)) ∧ ((zeroA Try.prog 1 = some [Value.nilFunc]) ∧ (eszA Try.prog 1 = some 1))) ∧ (((Try.prog.underlying 2 = some (TypeDesc.int IntKind.i64)) ∧ (isAggA Try.prog 2 = some false)) ∧ ((sizeA Try.prog 2 = some 1) ∧ (bytesA Try.prog 2 = some 8))))) ∧ (((((zeroA Try.prog 2 = some [Value.int IntKind.i64 (0)]) ∧ (eszA Try.prog 2 = some 1)) ∧ ((Try.prog.underlying 3 = some (TypeDesc.int IntKind.i64)) ∧ (isAggA Try.prog 3 = some false))) ∧ (((sizeA Try.prog 3 = some 1) ∧ (bytesA Try.prog 3 = some 8)) ∧ ((zeroA Try.prog 3 = some [Value.int IntKind.i64 (0)]) ∧ (eszA Try.prog 3 = some 1)))) ∧ ((((Try.prog.underlying 4 = some TypeDesc.bool) ∧ (isAggA Try.prog 4 = some false)) ∧ ((sizeA Try.prog 4 = some 1) ∧ (bytesA Try.prog 4 = some 1))) ∧ (((zeroA Try.prog 4 = some [Value.bool false]) ∧ (isBoolT Try.prog 4 = true)) ∧ ((eszA Try.prog 4 = some 1) ∧ (Try.prog.underlying 5 = some (TypeDesc.int IntKind.u8))))))) ∧ ((((((isAggA Try.prog 5 = some false) ∧ (sizeA Try.prog 5 = some 1)) ∧ ((bytesA Try.prog 5 = some 1) ∧ (zeroA Try.prog 5 = some [Value.int IntKind.u8 (0)]))) ∧ (((isU8 Try.prog 5 = true) ∧ (eszA Try.prog 5 = some 1)) ∧ ((Try.prog.underlying 6 = some (TypeDesc.int IntKind.u8)) ∧ (isAggA Try.prog 6 = some false)))) ∧ ((((sizeA Try.prog 6 = some 1) ∧ (bytesA Try.prog 6 = some 1)) ∧ ((zeroA Try.prog 6 = some [Value.int IntKind.u8 (0)]) ∧ (isU8 Try.prog 6 = true))) ∧ (((eszA Try.prog 6 = some 1) ∧ (Try.prog.underlying 7 = some (TypeDesc.struct #[{ name := "x", type := 2, offset := 0, embedded := false, tag := "", pkgPath := "runtime", byteOffset := 0 }, { name := "y", type := 3, offset := 1, embedded := false, tag := "", pkgPath := "runtime", byteOffset := 8 }, { name := "signed", type := 4, offset := 2, embedded := false, tag := "", pkgPath := "runtime", byteOffset := 16 }, { name := "code", type := 6, offset := 3, embedded := false, tag := "", pkgPath := "runtime", byteOffset := 17 }]))) ∧ ((fieldA Try.prog 7 0 = some (0, 2)) ∧ (fieldA Try.prog 7 1 = some (1, 3)))))) ∧ (((((fieldA Try.prog 7 2 = some (2, 4)) ∧ (fieldA Try.prog 7 3 = some (3, 6))) ∧ ((isAggA Try.prog 7 = some true) ∧ (sizeA Try.prog 7 = some 4))) ∧ (((bytesA Try.prog 7 = some 24) ∧ (zeroA Try.prog 7 = some [Value.int IntKind.i64 (0), Value.int IntKind.i64 (0), Value.bool false, Value.int IntKind.u8 (0)])) ∧ ((placesA Try.prog 7 = some [(0, 1), (1, 1), (2, 1), (3, 1)]) ∧ (eszA Try.prog 7 = some 4)))) ∧ ((((Try.prog.underlying 8 = some (TypeDesc.struct #[{ name := "x", type := 2, offset := 0, embedded := false, tag := "", pkgPath := "runtime", byteOffset := 0 }, { name := "y", type := 3, offset := 1, embedded := false, tag := "", pkgPath := "runtime", byteOffset := 8 }, { name := "signed", type := 4, offset := 2, embedded := false, tag := "", pkgPath := "runtime", byteOffset := 16 }, { name := "code", type := 6, offset := 3, embedded := false, tag := "", pkgPath := "runtime", byteOffset := 17 }])) ∧ (fieldA Try.prog 8 0 = some (0, 2))) ∧ ((fieldA Try.prog 8 1 = some (1, 3)) ∧ (fieldA Try.prog 8 2 = some (2, 4)))) ∧ (((fieldA Try.prog 8 3 = some (3, 6)) ∧ (isAggA Try.prog 8 = some true)) ∧ ((sizeA Try.prog 8 = some 4) ∧ ((bytesA Try.prog 8 = some 24) ∧ (zeroA Try.prog 8 = some [Value.int IntKind.i64 (0), Value.int IntKind.i64 (0), Value.bool false, Value.int IntKind.u8 (0)])))))))) ∧ (((((((placesA Try.prog 8 = some [(0, 1), (1, 1), (2, 1), (3, 1)]) ∧ (eszA Try.prog 8 = some 4)) ∧ ((Try.prog.underlying 9 = some TypeDesc.string) ∧ (isAggA Try.prog 9 = some false))) ∧ (((sizeA Try.prog 9 = some 1) ∧ (bytesA Try.prog 9 = some 16)) ∧ ((zeroA Try.prog 9 = some [Value.string ⟨#[]⟩]) ∧ (eszA Try.prog 9 = some 1)))) ∧ ((((Try.prog.underlying 10 = some TypeDesc.string) ∧ (isAggA Try.prog 10 = some false)) ∧ ((sizeA Try.prog 10 = some 1) ∧ (bytesA Try.prog 10 = some 16))) ∧ (((zeroA Try.prog 10 = some [Value.string ⟨#[]⟩]) ∧ (eszA Try.prog 10 = some 1)) ∧ ((Try.prog.underlying 11 = some TypeDesc.string) ∧ (isAggA Try.prog 11 = some false))))) ∧ (((((sizeA Try.prog 11 = some 1) ∧ (bytesA Try.prog 11 = some 16)) ∧ ((zeroA Try.prog 11 = some [Value.string ⟨#[]⟩]) ∧ (eszA Try.prog 11 = some 1))) ∧ (((Try.prog.underlying 12 = some (TypeDesc.int IntKind.u64)) ∧ (isAggA Try.prog 12 = some false)) ∧ ((sizeA Try.prog 12 = some 1) ∧ (bytesA Try.prog 12 = some 8)))) ∧ ((((zeroA Try.prog 12 = some [Value.int IntKind.u64 (0)]) ∧ (eszA Try.prog 12 = some 1)) ∧ ((Try.prog.underlying 13 = some (TypeDesc.struct #[{ name := "msg", type := 9, offset := 0, embedded := false, tag := "", pkgPath := "runtime", byteOffset := 0 }, { name := "addr", type := 12, offset := 1, embedded := false, tag := "", pkgPath := "runtime", byteOffset := 16 }])) ∧ (fieldA Try.prog 13 0 = some (0, 9)))) ∧ (((fieldA Try.prog 13 1 = some (1, 12)) ∧ (isAggA Try.prog 13 = some true)) ∧ ((sizeA Try.prog 13 = some 2) ∧ ((bytesA Try.prog 13 = some 24) ∧ (zeroA Try.prog 13 = some [Value.string ⟨#[]⟩, Value.int IntKind.u64 (0)]))))))) ∧ ((((((placesA Try.prog 13 = some [(0, 1), (1, 1)]) ∧ (eszA Try.prog 13 = some 2)) ∧ ((Try.prog.underlying 14 = some (TypeDesc.struct #[{ name := "msg", type := 9, offset := 0, embedded := false, tag := "", pkgPath := "runtime", byteOffset := 0 }, { name := "addr", type := 12, offset := 1, embedded := false, tag := "", pkgPath := "runtime", byteOffset := 16 }])) ∧ (fieldA Try.prog 14 0 = some (0, 9)))) ∧ (((fieldA Try.prog 14 1 = some (1, 12)) ∧ (isAggA Try.prog 14 = some true)) ∧ ((sizeA Try.prog 14 = some 2) ∧ (bytesA Try.prog 14 = some 24)))) ∧ ((((zeroA Try.prog 14 = some [Value.string ⟨#[]⟩, Value.int IntKind.u64 (0)]) ∧ (placesA Try.prog 14 = some [(0, 1), (1, 1)])) ∧ ((eszA Try.prog 14 = some 2) ∧ (Try.prog.underlying 15 = some (TypeDesc.pointer 61)))) ∧ (((isAggA Try.prog 15 = some false) ∧ (sizeA Try.prog 15 = some 1)) ∧ ((bytesA Try.prog 15 = some 8) ∧ (zeroA Try.prog 15 = some [Value.pointer none]))))) ∧ (((((eszA Try.prog 15 = some 1) ∧ (Try.prog.underlying 16 = some (TypeDesc.pointer 64))) ∧ ((isAggA Try.prog 16 = some false) ∧ (sizeA Try.prog 16 = some 1))) ∧ (((bytesA Try.prog 16 = some 8) ∧ (zeroA Try.prog 16 = some [Value.pointer none])) ∧ ((eszA Try.prog 16 = some 1) ∧ (Try.prog.underlying 17 = some (TypeDesc.pointer 73))))) ∧ ((((isAggA Try.prog 17 = some false) ∧ (sizeA Try.prog 17 = some 1)) ∧ ((bytesA Try.prog 17 = some 8) ∧ (zeroA Try.prog 17 = some [Value.pointer none]))) ∧ (((eszA Try.prog 17 = some 1) ∧ (Try.prog.underlying 18 = some (TypeDesc.struct #[{ name := "typ", type := 17, offset := 0, embedded := false, tag := "", pkgPath := "internal/runtime/maps", byteOffset := 0 }]))) ∧ ((fieldA Try.prog 18 0 = some (0, 17)) ∧ ((isAggA Try.prog 18 = some true) ∧ (sizeA Try.prog 18 = some 1))))))))) ∧ ((((((((bytesA Try.prog 18 = some 8) ∧ (zeroA Try.prog 18 = some [Value.pointer none])) ∧ ((placesA Try.prog 18 = some [(0, 1)]) ∧ (eszA Try.prog 18 = some 1))) ∧ (((Try.prog.underlying 19 = some (TypeDesc.struct #[{ name := "typ", type := 17, offset := 0, embedded := false, tag := "", pkgPath := "internal/runtime/maps", byteOffset := 0 }])) ∧ (fieldA Try.prog 19 0 = some (0, 17))) ∧ ((isAggA Try.prog 19 = some true) ∧ (sizeA Try.prog 19 = some 1)))) ∧ ((((bytesA Try.prog 19 = some 8) ∧ (zeroA Try.prog 19 = some [Value.pointer none])) ∧ ((placesA Try.prog 19 = some [(0, 1)]) ∧ (eszA Try.prog 19 = some 1))) ∧ (((Try.prog.underlying 20 = some (TypeDesc.interface #[])) ∧ (isAggA Try.prog 20 = some false)) ∧ ((sizeA Try.prog 20 = some 1) ∧ (bytesA Try.prog 20 = some 16))))) ∧ (((((zeroA Try.prog 20 = some [Value.nilIface]) ∧ (eszA Try.prog 20 = some 1)) ∧ ((Try.prog.underlying 21 = some (TypeDesc.int IntKind.i32)) ∧ (isAggA Try.prog 21 = some false))) ∧ (((sizeA Try.prog 21 = some 1) ∧ (bytesA Try.prog 21 = some 4)) ∧ ((zeroA Try.prog 21 = some [Value.int IntKind.i32 (0)]) ∧ (eszA Try.prog 21 = some 1)))) ∧ ((((Try.prog.underlying 22 = some (TypeDesc.slice 36)) ∧ (isAggA Try.prog 22 = some false)) ∧ ((sizeA Try.prog 22 = some 1) ∧ (bytesA Try.prog 22 = some 24))) ∧ (((zeroA Try.prog 22 = some [Value.slice none 0 0]) ∧ (eszA Try.prog 22 = some 1)) ∧ ((Try.prog.underlying 23 = some (TypeDesc.int IntKind.i64)) ∧ (isAggA Try.prog 23 = some false)))))) ∧ ((((((sizeA Try.prog 23 = some 1) ∧ (bytesA Try.prog 23 = some 8)) ∧ ((zeroA Try.prog 23 = some [Value.int IntKind.i64 (0)]) ∧ (eszA Try.prog 23 = some 1))) ∧ (((Try.prog.underlying 24 = some (TypeDesc.tuple #[9, 23])) ∧ (isAggA Try.prog 24 = some false)) ∧ ((sizeA Try.prog 24 = some 1) ∧ (bytesA Try.prog 24 = some 0)))) ∧ ((((zeroA Try.prog 24 = some [Value.tuple #[Value.string ⟨#[]⟩, Value.int IntKind.i64 (0)]]) ∧ (eszA Try.prog 24 = some 1)) ∧ ((Try.prog.underlying 25 = some (TypeDesc.func #[22] #[9, 23] false)) ∧ (isAggA Try.prog 25 = some false))) ∧ (((sizeA Try.prog 25 = some 1) ∧ (bytesA Try.prog 25 = some 8)) ∧ ((zeroA Try.prog 25 = some [Value.nilFunc]) ∧ (eszA Try.prog 25 = some 1))))) ∧ (((((Try.prog.underlying 26 = some (TypeDesc.func #[] #[4] false)) ∧ (isAggA Try.prog 26 = some false)) ∧ ((sizeA Try.prog 26 = some 1) ∧ (bytesA Try.prog 26 = some 8))) ∧ (((zeroA Try.prog 26 = some [Value.nilFunc]) ∧ (eszA Try.prog 26 = some 1)) ∧ ((Try.prog.underlying 27 = some (TypeDesc.tuple #[22, 3])) ∧ (isAggA Try.prog 27 = some false)))) ∧ ((((sizeA Try.prog 27 = some 1) ∧ (bytesA Try.prog 27 = some 0)) ∧ ((zeroA Try.prog 27 = some [Value.tuple #[Value.slice none 0 0, Value.int IntKind.i64 (0)]]) ∧ (eszA Try.prog 27 = some 1))) ∧ (((Try.prog.underlying 28 = some (TypeDesc.func #[9] #[22, 3] false)) ∧ (isAggA Try.prog 28 = some false)) ∧ ((sizeA Try.prog 28 = some 1) ∧ ((bytesA Try.prog 28 = some 8) ∧ (zeroA Try.prog 28 = some [Value.nilFunc])))))))) ∧ (((((((eszA Try.prog 28 = some 1) ∧ (Try.prog.underlying 29 = some (TypeDesc.func #[22, 22] #[4] false))) ∧ ((isAggA Try.prog 29 = some false) ∧ (sizeA Try.prog 29 = some 1))) ∧ (((bytesA Try.prog 29 = some 8) ∧ (zeroA Try.prog 29 = some [Value.nilFunc])) ∧ ((eszA Try.prog 29 = some 1) ∧ (Try.prog.underlying 30 = some (TypeDesc.func #[22, 3] #[4] false))))) ∧ ((((isAggA Try.prog 30 = some false) ∧ (sizeA Try.prog 30 = some 1)) ∧ ((bytesA Try.prog 30 = some 8) ∧ (zeroA Try.prog 30 = some [Value.nilFunc]))) ∧ (((eszA Try.prog 30 = some 1) ∧ (Try.prog.underlying 31 = some (TypeDesc.func #[22] #[23] false))) ∧ ((isAggA Try.prog 31 = some false) ∧ (sizeA Try.prog 31 = some 1))))) ∧ (((((bytesA Try.prog 31 = some 8) ∧ (zeroA Try.prog 31 = some [Value.nilFunc])) ∧ ((eszA Try.prog 31 = some 1) ∧ (Try.prog.underlying 32 = some (TypeDesc.tuple #[22, 23])))) ∧ (((isAggA Try.prog 32 = some false) ∧ (sizeA Try.prog 32 = some 1)) ∧ ((bytesA Try.prog 32 = some 0) ∧ (zeroA Try.prog 32 = some [Value.tuple #[Value.slice none 0 0, Value.int IntKind.i64 (0)]])))) ∧ ((((eszA Try.prog 32 = some 1) ∧ (Try.prog.underlying 33 = some (TypeDesc.func #[9] #[22, 23] false))) ∧ ((isAggA Try.prog 33 = some false) ∧ (sizeA Try.prog 33 = some 1))) ∧ (((bytesA Try.prog 33 = some 8) ∧ (zeroA Try.prog 33 = some [Value.nilFunc])) ∧ ((eszA Try.prog 33 = some 1) ∧ ((Try.prog.underlying 34 = some (TypeDesc.func #[22] #[4] false)) ∧ (isAggA Try.prog 34 = some false))))))) ∧ ((((((sizeA Try.prog 34 = some 1) ∧ (bytesA Try.prog 34 = some 8)) ∧ ((zeroA Try.prog 34 = some [Value.nilFunc]) ∧ (eszA Try.prog 34 = some 1))) ∧ (((Try.prog.underlying 35 = some (TypeDesc.struct #[{ name := "Time", type := 3, offset := 0, embedded := false, tag := "", pkgPath := "", byteOffset := 0 }, { name := "Node", type := 3, offset := 1, embedded := false, tag := "", pkgPath := "", byteOffset := 8 }, { name := "Port", type := 3, offset := 2, embedded := false, tag := "", pkgPath := "", byteOffset := 16 }, { name := "Out", type := 4, offset := 3, embedded := false, tag := "", pkgPath := "", byteOffset := 24 }, { name := "Bytes", type := 9, offset := 4, embedded := false, tag := "", pkgPath := "", byteOffset := 32 }])) ∧ (fieldA Try.prog 35 0 = some (0, 3))) ∧ ((fieldA Try.prog 35 1 = some (1, 3)) ∧ (fieldA Try.prog 35 2 = some (2, 3))))) ∧ ((((fieldA Try.prog 35 3 = some (3, 4)) ∧ (fieldA Try.prog 35 4 = some (4, 9))) ∧ ((isAggA Try.prog 35 = some true) ∧ (sizeA Try.prog 35 = some 5))) ∧ (((bytesA Try.prog 35 = some 48) ∧ (zeroA Try.prog 35 = some [Value.int IntKind.i64 (0), Value.int IntKind.i64 (0), Value.int IntKind.i64 (0), Value.bool false, Value.string ⟨#[]⟩])) ∧ ((placesA Try.prog 35 = some [(0, 1), (1, 1), (2, 1), (3, 1), (4, 1)]) ∧ (eszA Try.prog 35 = some 5))))) ∧ (((((Try.prog.underlying 36 = some (TypeDesc.struct #[{ name := "Time", type := 3, offset := 0, embedded := false, tag := "", pkgPath := "", byteOffset := 0 }, { name := "Node", type := 3, offset := 1, embedded := false, tag := "", pkgPath := "", byteOffset := 8 }, { name := "Port", type := 3, offset := 2, embedded := false, tag := "", pkgPath := "", byteOffset := 16 }, { name := "Out", type := 4, offset := 3, embedded := false, tag := "", pkgPath := "", byteOffset := 24 }, { name := "Bytes", type := 9, offset := 4, embedded := false, tag := "", pkgPath := "", byteOffset := 32 }])) ∧ (fieldA Try.prog 36 0 = some (0, 3))) ∧ ((fieldA Try.prog 36 1 = some (1, 3)) ∧ (fieldA Try.prog 36 2 = some (2, 3)))) ∧ (((fieldA Try.prog 36 3 = some (3, 4)) ∧ (fieldA Try.prog 36 4 = some (4, 9))) ∧ ((isAggA Try.prog 36 = some true) ∧ (sizeA Try.prog 36 = some 5)))) ∧ ((((bytesA Try.prog 36 = some 48) ∧ (zeroA Try.prog 36 = some [Value.int IntKind.i64 (0), Value.int IntKind.i64 (0), Value.int IntKind.i64 (0), Value.bool false, Value.string ⟨#[]⟩])) ∧ ((placesA Try.prog 36 = some [(0, 1), (1, 1), (2, 1), (3, 1), (4, 1)]) ∧ (eszA Try.prog 36 = some 5))) ∧ (((Try.prog.underlying 37 = some (TypeDesc.slice 5)) ∧ (isAggA Try.prog 37 = some false)) ∧ ((sizeA Try.prog 37 = some 1) ∧ ((bytesA Try.prog 37 = some 24) ∧ (zeroA Try.prog 37 = some [Value.slice none 0 0])))))))))) ∧ (((((((((eszA Try.prog 37 = some 1) ∧ (Try.prog.underlying 38 = some (TypeDesc.func #[22, 3, 3, 3] #[4] false))) ∧ ((isAggA Try.prog 38 = some false) ∧ (sizeA Try.prog 38 = some 1))) ∧ (((bytesA Try.prog 38 = some 8) ∧ (zeroA Try.prog 38 = some [Value.nilFunc])) ∧ ((eszA Try.prog 38 = some 1) ∧ (Try.prog.underlying 39 = some (TypeDesc.func #[22, 22] #[22, 23] false))))) ∧ ((((isAggA Try.prog 39 = some false) ∧ (sizeA Try.prog 39 = some 1)) ∧ ((bytesA Try.prog 39 = some 8) ∧ (zeroA Try.prog 39 = some [Value.nilFunc]))) ∧ (((eszA Try.prog 39 = some 1) ∧ (Try.prog.underlying 40 = some (TypeDesc.func #[36, 3] #[9] false))) ∧ ((isAggA Try.prog 40 = some false) ∧ (sizeA Try.prog 40 = some 1))))) ∧ (((((bytesA Try.prog 40 = some 8) ∧ (zeroA Try.prog 40 = some [Value.nilFunc])) ∧ ((eszA Try.prog 40 = some 1) ∧ (Try.prog.underlying 41 = some (TypeDesc.tuple #[36, 3, 4])))) ∧ (((isAggA Try.prog 41 = some false) ∧ (sizeA Try.prog 41 = some 1)) ∧ ((bytesA Try.prog 41 = some 0) ∧ (zeroA Try.prog 41 = some [Value.tuple #[Value.agg #[Value.int IntKind.i64 (0), Value.int IntKind.i64 (0), Value.int IntKind.i64 (0), Value.bool false, Value.string ⟨#[]⟩], Value.int IntKind.i64 (0), Value.bool false]])))) ∧ ((((eszA Try.prog 41 = some 1) ∧ (Try.prog.underlying 42 = some (TypeDesc.func #[9, 3] #[36, 3, 4] false))) ∧ ((isAggA Try.prog 42 = some false) ∧ (sizeA Try.prog 42 = some 1))) ∧ (((bytesA Try.prog 42 = some 8) ∧ (zeroA Try.prog 42 = some [Value.nilFunc])) ∧ ((eszA Try.prog 42 = some 1) ∧ (Try.prog.underlying 43 = some (TypeDesc.func #[9] #[3] false))))))) ∧ ((((((isAggA Try.prog 43 = some false) ∧ (sizeA Try.prog 43 = some 1)) ∧ ((bytesA Try.prog 43 = some 8) ∧ (zeroA Try.prog 43 = some [Value.nilFunc]))) ∧ (((eszA Try.prog 43 = some 1) ∧ (Try.prog.underlying 44 = some (TypeDesc.slice 22))) ∧ ((isAggA Try.prog 44 = some false) ∧ (sizeA Try.prog 44 = some 1)))) ∧ ((((bytesA Try.prog 44 = some 24) ∧ (zeroA Try.prog 44 = some [Value.slice none 0 0])) ∧ ((eszA Try.prog 44 = some 1) ∧ (Try.prog.underlying 45 = some (TypeDesc.func #[44] #[22] true)))) ∧ (((isAggA Try.prog 45 = some false) ∧ (sizeA Try.prog 45 = some 1)) ∧ ((bytesA Try.prog 45 = some 8) ∧ (zeroA Try.prog 45 = some [Value.nilFunc]))))) ∧ (((((eszA Try.prog 45 = some 1) ∧ (Try.prog.underlying 46 = some (TypeDesc.func #[22, 47] #[] false))) ∧ ((isAggA Try.prog 46 = some false) ∧ (sizeA Try.prog 46 = some 1))) ∧ (((bytesA Try.prog 46 = some 8) ∧ (zeroA Try.prog 46 = some [Value.nilFunc])) ∧ ((eszA Try.prog 46 = some 1) ∧ (Try.prog.underlying 47 = some (TypeDesc.func #[36, 36] #[3] false))))) ∧ ((((isAggA Try.prog 47 = some false) ∧ (sizeA Try.prog 47 = some 1)) ∧ ((bytesA Try.prog 47 = some 8) ∧ (zeroA Try.prog 47 = some [Value.nilFunc]))) ∧ (((eszA Try.prog 47 = some 1) ∧ (Try.prog.underlying 48 = some (TypeDesc.int IntKind.u64))) ∧ ((isAggA Try.prog 48 = some false) ∧ ((sizeA Try.prog 48 = some 1) ∧ (bytesA Try.prog 48 = some 8)))))))) ∧ (((((((zeroA Try.prog 48 = some [Value.int IntKind.u64 (0)]) ∧ (eszA Try.prog 48 = some 1)) ∧ ((Try.prog.underlying 49 = some (TypeDesc.func #[3, 3] #[9] false)) ∧ (isAggA Try.prog 49 = some false))) ∧ (((sizeA Try.prog 49 = some 1) ∧ (bytesA Try.prog 49 = some 8)) ∧ ((zeroA Try.prog 49 = some [Value.nilFunc]) ∧ (eszA Try.prog 49 = some 1)))) ∧ ((((Try.prog.underlying 50 = some (TypeDesc.int IntKind.u32)) ∧ (isAggA Try.prog 50 = some false)) ∧ ((sizeA Try.prog 50 = some 1) ∧ (bytesA Try.prog 50 = some 4))) ∧ (((zeroA Try.prog 50 = some [Value.int IntKind.u32 (0)]) ∧ (eszA Try.prog 50 = some 1)) ∧ ((Try.prog.underlying 51 = some (TypeDesc.func #[9] #[50] false)) ∧ (isAggA Try.prog 51 = some false))))) ∧ (((((sizeA Try.prog 51 = some 1) ∧ (bytesA Try.prog 51 = some 8)) ∧ ((zeroA Try.prog 51 = some [Value.nilFunc]) ∧ (eszA Try.prog 51 = some 1))) ∧ (((Try.prog.underlying 52 = some (TypeDesc.func #[22, 3] #[22] false)) ∧ (isAggA Try.prog 52 = some false)) ∧ ((sizeA Try.prog 52 = some 1) ∧ (bytesA Try.prog 52 = some 8)))) ∧ ((((zeroA Try.prog 52 = some [Value.nilFunc]) ∧ (eszA Try.prog 52 = some 1)) ∧ ((Try.prog.underlying 53 = some (TypeDesc.func #[22, 3, 47] #[] false)) ∧ (isAggA Try.prog 53 = some false))) ∧ (((sizeA Try.prog 53 = some 1) ∧ (bytesA Try.prog 53 = some 8)) ∧ ((zeroA Try.prog 53 = some [Value.nilFunc]) ∧ ((eszA Try.prog 53 = some 1) ∧ (Try.prog.underlying 54 = some (TypeDesc.array 256 50)))))))) ∧ ((((((isAggA Try.prog 54 = some true) ∧ (sizeA Try.prog 54 = some 256)) ∧ ((bytesA Try.prog 54 = some 1024) ∧ (zeroA Try.prog 54 = some (List.replicate 256 (Value.int IntKind.u32 (0)))))) ∧ (((eszA Try.prog 54 = some 1) ∧ (Try.prog.underlying 55 = some (TypeDesc.func #[] #[54] false))) ∧ ((isAggA Try.prog 55 = some false) ∧ (sizeA Try.prog 55 = some 1)))) ∧ ((((bytesA Try.prog 55 = some 8) ∧ (zeroA Try.prog 55 = some [Value.nilFunc])) ∧ ((eszA Try.prog 55 = some 1) ∧ (Try.prog.underlying 56 = some (TypeDesc.func #[22, 3, 3, 47] #[] false)))) ∧ (((isAggA Try.prog 56 = some false) ∧ (sizeA Try.prog 56 = some 1)) ∧ ((bytesA Try.prog 56 = some 8) ∧ (zeroA Try.prog 56 = some [Value.nilFunc]))))) ∧ (((((eszA Try.prog 56 = some 1) ∧ (Try.prog.underlying 57 = some (TypeDesc.func #[22, 3, 3, 3, 47] #[] false))) ∧ ((isAggA Try.prog 57 = some false) ∧ (sizeA Try.prog 57 = some 1))) ∧ (((bytesA Try.prog 57 = some 8) ∧ (zeroA Try.prog 57 = some [Value.nilFunc])) ∧ ((eszA Try.prog 57 = some 1) ∧ (Try.prog.underlying 58 = some (TypeDesc.func #[50] #[50] false))))) ∧ ((((isAggA Try.prog 58 = some false) ∧ (sizeA Try.prog 58 = some 1)) ∧ ((bytesA Try.prog 58 = some 8) ∧ (zeroA Try.prog 58 = some [Value.nilFunc]))) ∧ (((eszA Try.prog 58 = some 1) ∧ (Try.prog.underlying 59 = some (TypeDesc.func #[] #[9] false))) ∧ ((isAggA Try.prog 59 = some false) ∧ ((sizeA Try.prog 59 = some 1) ∧ (bytesA Try.prog 59 = some 8))))))))) ∧ ((((((((zeroA Try.prog 59 = some [Value.nilFunc]) ∧ (eszA Try.prog 59 = some 1)) ∧ ((Try.prog.underlying 60 = some (TypeDesc.struct #[{ name := "_interface", type := 17, offset := 0, embedded := false, tag := "", pkgPath := "runtime", byteOffset := 0 }, { name := "concrete", type := 17, offset := 1, embedded := false, tag := "", pkgPath := "runtime", byteOffset := 8 }, { name := "asserted", type := 17, offset := 2, embedded := false, tag := "", pkgPath := "runtime", byteOffset := 16 }, { name := "missingMethod", type := 9, offset := 3, embedded := false, tag := "", pkgPath := "runtime", byteOffset := 24 }])) ∧ (fieldA Try.prog 60 0 = some (0, 17)))) ∧ (((fieldA Try.prog 60 1 = some (1, 17)) ∧ (fieldA Try.prog 60 2 = some (2, 17))) ∧ ((fieldA Try.prog 60 3 = some (3, 9)) ∧ (isAggA Try.prog 60 = some true)))) ∧ ((((sizeA Try.prog 60 = some 4) ∧ (bytesA Try.prog 60 = some 40)) ∧ ((zeroA Try.prog 60 = some [Value.pointer none, Value.pointer none, Value.pointer none, Value.string ⟨#[]⟩]) ∧ (placesA Try.prog 60 = some [(0, 1), (1, 1), (2, 1), (3, 1)]))) ∧ (((eszA Try.prog 60 = some 4) ∧ (Try.prog.underlying 61 = some (TypeDesc.struct #[{ name := "_interface", type := 17, offset := 0, embedded := false, tag := "", pkgPath := "runtime", byteOffset := 0 }, { name := "concrete", type := 17, offset := 1, embedded := false, tag := "", pkgPath := "runtime", byteOffset := 8 }, { name := "asserted", type := 17, offset := 2, embedded := false, tag := "", pkgPath := "runtime", byteOffset := 16 }, { name := "missingMethod", type := 9, offset := 3, embedded := false, tag := "", pkgPath := "runtime", byteOffset := 24 }]))) ∧ ((fieldA Try.prog 61 0 = some (0, 17)) ∧ (fieldA Try.prog 61 1 = some (1, 17)))))) ∧ (((((fieldA Try.prog 61 2 = some (2, 17)) ∧ (fieldA Try.prog 61 3 = some (3, 9))) ∧ ((isAggA Try.prog 61 = some true) ∧ (sizeA Try.prog 61 = some 4))) ∧ (((bytesA Try.prog 61 = some 40) ∧ (zeroA Try.prog 61 = some [Value.pointer none, Value.pointer none, Value.pointer none, Value.string ⟨#[]⟩])) ∧ ((placesA Try.prog 61 = some [(0, 1), (1, 1), (2, 1), (3, 1)]) ∧ (eszA Try.prog 61 = some 4)))) ∧ ((((Try.prog.underlying 62 = some (TypeDesc.array 0 16)) ∧ (isAggA Try.prog 62 = some true)) ∧ ((sizeA Try.prog 62 = some 0) ∧ (bytesA Try.prog 62 = some 0))) ∧ (((zeroA Try.prog 62 = some []) ∧ (eszA Try.prog 62 = some 1)) ∧ ((Try.prog.underlying 63 = some (TypeDesc.struct #[{ name := "_", type := 62, offset := 0, embedded := false, tag := "", pkgPath := "runtime", byteOffset := 0 }])) ∧ ((fieldA Try.prog 63 0 = some (0, 62)) ∧ (isAggA Try.prog 63 = some true))))))) ∧ ((((((sizeA Try.prog 63 = some 0) ∧ (bytesA Try.prog 63 = some 0)) ∧ ((zeroA Try.prog 63 = some []) ∧ (placesA Try.prog 63 = some [(0, 0)]))) ∧ (((eszA Try.prog 63 = some 0) ∧ (Try.prog.underlying 64 = some (TypeDesc.struct #[{ name := "_", type := 62, offset := 0, embedded := false, tag := "", pkgPath := "runtime", byteOffset := 0 }]))) ∧ ((fieldA Try.prog 64 0 = some (0, 62)) ∧ (isAggA Try.prog 64 = some true)))) ∧ ((((sizeA Try.prog 64 = some 0) ∧ (bytesA Try.prog 64 = some 0)) ∧ ((zeroA Try.prog 64 = some []) ∧ (placesA Try.prog 64 = some [(0, 0)]))) ∧ (((eszA Try.prog 64 = some 0) ∧ (Try.prog.underlying 65 = some (TypeDesc.func #[] #[3] false))) ∧ ((isAggA Try.prog 65 = some false) ∧ (sizeA Try.prog 65 = some 1))))) ∧ (((((bytesA Try.prog 65 = some 8) ∧ (zeroA Try.prog 65 = some [Value.nilFunc])) ∧ ((eszA Try.prog 65 = some 1) ∧ (Try.prog.underlying 66 = some (TypeDesc.int IntKind.u8)))) ∧ (((isAggA Try.prog 66 = some false) ∧ (sizeA Try.prog 66 = some 1)) ∧ ((bytesA Try.prog 66 = some 1) ∧ (zeroA Try.prog 66 = some [Value.int IntKind.u8 (0)])))) ∧ ((((isU8 Try.prog 66 = true) ∧ (eszA Try.prog 66 = some 1)) ∧ ((Try.prog.underlying 67 = some (TypeDesc.int IntKind.u8)) ∧ (isAggA Try.prog 67 = some false))) ∧ (((sizeA Try.prog 67 = some 1) ∧ (bytesA Try.prog 67 = some 1)) ∧ ((zeroA Try.prog 67 = some [Value.int IntKind.u8 (0)]) ∧ ((isU8 Try.prog 67 = true) ∧ (eszA Try.prog 67 = some 1)))))))) ∧ (((((((Try.prog.underlying 68 = some (TypeDesc.func #[74, 74] #[4] false)) ∧ (isAggA Try.prog 68 = some false)) ∧ ((sizeA Try.prog 68 = some 1) ∧ (bytesA Try.prog 68 = some 8))) ∧ (((zeroA Try.prog 68 = some [Value.nilFunc]) ∧ (eszA Try.prog 68 = some 1)) ∧ ((Try.prog.underlying 69 = some (TypeDesc.pointer 5)) ∧ (isAggA Try.prog 69 = some false)))) ∧ ((((sizeA Try.prog 69 = some 1) ∧ (bytesA Try.prog 69 = some 8)) ∧ ((zeroA Try.prog 69 = some [Value.pointer none]) ∧ (eszA Try.prog 69 = some 1))) ∧ (((Try.prog.underlying 70 = some (TypeDesc.int IntKind.i32)) ∧ (isAggA Try.prog 70 = some false)) ∧ ((sizeA Try.prog 70 = some 1) ∧ (bytesA Try.prog 70 = some 4))))) ∧ (((((zeroA Try.prog 70 = some [Value.int IntKind.i32 (0)]) ∧ (eszA Try.prog 70 = some 1)) ∧ ((Try.prog.underlying 71 = some (TypeDesc.int IntKind.i32)) ∧ (isAggA Try.prog 71 = some false))) ∧ (((sizeA Try.prog 71 = some 1) ∧ (bytesA Try.prog 71 = some 4)) ∧ ((zeroA Try.prog 71 = some [Value.int IntKind.i32 (0)]) ∧ (eszA Try.prog 71 = some 1)))) ∧ ((((Try.prog.underlying 72 = some (TypeDesc.struct #[{ name := "Size_", type := 12, offset := 0, embedded := false, tag := "", pkgPath := "", byteOffset := 0 }, { name := "PtrBytes", type := 12, offset := 1, embedded := false, tag := "", pkgPath := "", byteOffset := 8 }, { name := "Hash", type := 50, offset := 2, embedded := false, tag := "", pkgPath := "", byteOffset := 16 }, { name := "TFlag", type := 66, offset := 3, embedded := false, tag := "", pkgPath := "", byteOffset := 20 }, { name := "Align_", type := 5, offset := 4, embedded := false, tag := "", pkgPath := "", byteOffset := 21 }, { name := "FieldAlign_", type := 5, offset := 5, embedded := false, tag := "", pkgPath := "", byteOffset := 22 }, { name := "Kind_", type := 67, offset := 6, embedded := false, tag := "", pkgPath := "", byteOffset := 23 }, { name := "Equal", type := 68, offset := 7, embedded := false, tag := "", pkgPath := "", byteOffset := 24 }, { name := "GCData", type := 69, offset := 8, embedded := false, tag := "", pkgPath := "", byteOffset := 32 }, { name := "Str", type := 70, offset := 9, embedded := false, tag := "", pkgPath := "", byteOffset := 40 }, { name := "PtrToThis", type := 71, offset := 10, embedded := false, tag := "", pkgPath := "", byteOffset := 44 }])) ∧ (fieldA Try.prog 72 0 = some (0, 12))) ∧ ((fieldA Try.prog 72 1 = some (1, 12)) ∧ (fieldA Try.prog 72 2 = some (2, 50)))) ∧ (((fieldA Try.prog 72 3 = some (3, 66)) ∧ (fieldA Try.prog 72 4 = some (4, 5))) ∧ ((fieldA Try.prog 72 5 = some (5, 5)) ∧ ((fieldA Try.prog 72 6 = some (6, 67)) ∧ (fieldA Try.prog 72 7 = some (7, 68)))))))) ∧ ((((((fieldA Try.prog 72 8 = some (8, 69)) ∧ (fieldA Try.prog 72 9 = some (9, 70))) ∧ ((fieldA Try.prog 72 10 = some (10, 71)) ∧ (isAggA Try.prog 72 = some true))) ∧ (((sizeA Try.prog 72 = some 11) ∧ (bytesA Try.prog 72 = some 48)) ∧ ((zeroA Try.prog 72 = some [Value.int IntKind.u64 (0), Value.int IntKind.u64 (0), Value.int IntKind.u32 (0), Value.int IntKind.u8 (0), Value.int IntKind.u8 (0), Value.int IntKind.u8 (0), Value.int IntKind.u8 (0), Value.nilFunc, Value.pointer none, Value.int IntKind.i32 (0), Value.int IntKind.i32 (0)]) ∧ (placesA Try.prog 72 = some [(0, 1), (1, 1), (2, 1), (3, 1), (4, 1), (5, 1), (6, 1), (7, 1), (8, 1), (9, 1), (10, 1)])))) ∧ ((((eszA Try.prog 72 = some 11) ∧ (Try.prog.underlying 73 = some (TypeDesc.struct #[{ name := "Size_", type := 12, offset := 0, embedded := false, tag := "", pkgPath := "", byteOffset := 0 }, { name := "PtrBytes", type := 12, offset := 1, embedded := false, tag := "", pkgPath := "", byteOffset := 8 }, { name := "Hash", type := 50, offset := 2, embedded := false, tag := "", pkgPath := "", byteOffset := 16 }, { name := "TFlag", type := 66, offset := 3, embedded := false, tag := "", pkgPath := "", byteOffset := 20 }, { name := "Align_", type := 5, offset := 4, embedded := false, tag := "", pkgPath := "", byteOffset := 21 }, { name := "FieldAlign_", type := 5, offset := 5, embedded := false, tag := "", pkgPath := "", byteOffset := 22 }, { name := "Kind_", type := 67, offset := 6, embedded := false, tag := "", pkgPath := "", byteOffset := 23 }, { name := "Equal", type := 68, offset := 7, embedded := false, tag := "", pkgPath := "", byteOffset := 24 }, { name := "GCData", type := 69, offset := 8, embedded := false, tag := "", pkgPath := "", byteOffset := 32 }, { name := "Str", type := 70, offset := 9, embedded := false, tag := "", pkgPath := "", byteOffset := 40 }, { name := "PtrToThis", type := 71, offset := 10, embedded := false, tag := "", pkgPath := "", byteOffset := 44 }]))) ∧ ((fieldA Try.prog 73 0 = some (0, 12)) ∧ (fieldA Try.prog 73 1 = some (1, 12)))) ∧ (((fieldA Try.prog 73 2 = some (2, 50)) ∧ (fieldA Try.prog 73 3 = some (3, 66))) ∧ ((fieldA Try.prog 73 4 = some (4, 5)) ∧ (fieldA Try.prog 73 5 = some (5, 5)))))) ∧ (((((fieldA Try.prog 73 6 = some (6, 67)) ∧ (fieldA Try.prog 73 7 = some (7, 68))) ∧ ((fieldA Try.prog 73 8 = some (8, 69)) ∧ (fieldA Try.prog 73 9 = some (9, 70)))) ∧ (((fieldA Try.prog 73 10 = some (10, 71)) ∧ (isAggA Try.prog 73 = some true)) ∧ ((sizeA Try.prog 73 = some 11) ∧ (bytesA Try.prog 73 = some 48)))) ∧ ((((zeroA Try.prog 73 = some [Value.int IntKind.u64 (0), Value.int IntKind.u64 (0), Value.int IntKind.u32 (0), Value.int IntKind.u8 (0), Value.int IntKind.u8 (0), Value.int IntKind.u8 (0), Value.int IntKind.u8 (0), Value.nilFunc, Value.pointer none, Value.int IntKind.i32 (0), Value.int IntKind.i32 (0)]) ∧ (placesA Try.prog 73 = some [(0, 1), (1, 1), (2, 1), (3, 1), (4, 1), (5, 1), (6, 1), (7, 1), (8, 1), (9, 1), (10, 1)])) ∧ ((eszA Try.prog 73 = some 11) ∧ (Try.prog.underlying 74 = some TypeDesc.unsafePointer))) ∧ (((isAggA Try.prog 74 = some false) ∧ (sizeA Try.prog 74 = some 1)) ∧ ((bytesA Try.prog 74 = some 8) ∧ ((zeroA Try.prog 74 = some [Value.pointer none]) ∧ (eszA Try.prog 74 = some 1))))))))))) := ⟨⟨⟨⟨⟨⟨⟨⟨⟨u_0, ag_0⟩, ⟨sz_0, by_0⟩⟩, ⟨⟨ze_0, es_0⟩, ⟨u_1, ag_1⟩⟩⟩, ⟨⟨⟨sz_1, by_1⟩, ⟨ze_1, es_1⟩⟩, ⟨⟨u_2, ag_2⟩, ⟨sz_2, by_2⟩⟩⟩⟩, ⟨⟨⟨⟨ze_2, es_2⟩, ⟨u_3, ag_3⟩⟩, ⟨⟨sz_3, by_3⟩, ⟨ze_3, es_3⟩⟩⟩, ⟨⟨⟨u_4, ag_4⟩, ⟨sz_4, by_4⟩⟩, ⟨⟨ze_4, bo_4⟩, ⟨es_4, u_5⟩⟩⟩⟩⟩, ⟨⟨⟨⟨⟨ag_5, sz_5⟩, ⟨by_5, ze_5⟩⟩, ⟨⟨u8_5, es_5⟩, ⟨u_6, ag_6⟩⟩⟩, ⟨⟨⟨sz_6, by_6⟩, ⟨ze_6, u8_6⟩⟩, ⟨⟨es_6, u_7⟩, ⟨f_7_0, f_7_1⟩⟩⟩⟩, ⟨⟨⟨⟨f_7_2, f_7_3⟩, ⟨ag_7, sz_7⟩⟩, ⟨⟨by_7, ze_7⟩, ⟨pl_7, es_7⟩⟩⟩, ⟨⟨⟨u_8, f_8_0⟩, ⟨f_8_1, f_8_2⟩⟩, ⟨⟨f_8_3, ag_8⟩, ⟨sz_8, ⟨by_8, ze_8⟩⟩⟩⟩⟩⟩⟩, ⟨⟨⟨⟨⟨⟨pl_8, es_8⟩, ⟨u_9, ag_9⟩⟩, ⟨⟨sz_9, by_9⟩, ⟨ze_9, es_9⟩⟩⟩, ⟨⟨⟨u_10, ag_10⟩, ⟨sz_10, by_10⟩⟩, ⟨⟨ze_10, es_10⟩, ⟨u_11, ag_11⟩⟩⟩⟩, ⟨⟨⟨⟨sz_11, by_11⟩, ⟨ze_11, es_11⟩⟩, ⟨⟨u_12, ag_12⟩, ⟨sz_12, by_12⟩⟩⟩, ⟨⟨⟨ze_12, es_12⟩, ⟨u_13, f_13_0⟩⟩, ⟨⟨f_13_1, ag_13⟩, ⟨sz_13, ⟨by_13, ze_13⟩⟩⟩⟩⟩⟩, ⟨⟨⟨⟨⟨pl_13, es_13⟩, ⟨u_14, f_14_0⟩⟩, ⟨⟨f_14_1, ag_14⟩, ⟨sz_14, by_14⟩⟩⟩, ⟨⟨⟨ze_14, pl_14⟩, ⟨es_14, u_15⟩⟩, ⟨⟨ag_15, sz_15⟩, ⟨by_15, ze_15⟩⟩⟩⟩, ⟨⟨⟨⟨es_15, u_16⟩, ⟨ag_16, sz_16⟩⟩, ⟨⟨by_16, ze_16⟩, ⟨es_16, u_17⟩⟩⟩, ⟨⟨⟨ag_17, sz_17⟩, ⟨by_17, ze_17⟩⟩, ⟨⟨es_17, u_18⟩, ⟨f_18_0, ⟨ag_18, sz_18⟩⟩⟩⟩⟩⟩⟩⟩, ⟨⟨⟨⟨⟨⟨⟨by_18, ze_18⟩, ⟨pl_18, es_18⟩⟩, ⟨⟨u_19, f_19_0⟩, ⟨ag_19, sz_19⟩⟩⟩, ⟨⟨⟨by_19, ze_19⟩, ⟨pl_19, es_19⟩⟩, ⟨⟨u_20, ag_20⟩, ⟨sz_20, by_20⟩⟩⟩⟩, ⟨⟨⟨⟨ze_20, es_20⟩, ⟨u_21, ag_21⟩⟩, ⟨⟨sz_21, by_21⟩, ⟨ze_21, es_21⟩⟩⟩, ⟨⟨⟨u_22, ag_22⟩, ⟨sz_22, by_22⟩⟩, ⟨⟨ze_22, es_22⟩, ⟨u_23, ag_23⟩⟩⟩⟩⟩, ⟨⟨⟨⟨⟨sz_23, by_23⟩, ⟨ze_23, es_23⟩⟩, ⟨⟨u_24, ag_24⟩, ⟨sz_24, by_24⟩⟩⟩, ⟨⟨⟨ze_24, es_24⟩, ⟨u_25, ag_25⟩⟩, ⟨⟨sz_25, by_25⟩, ⟨ze_25, es_25⟩⟩⟩⟩, ⟨⟨⟨⟨u_26, ag_26⟩, ⟨sz_26, by_26⟩⟩, ⟨⟨ze_26, es_26⟩, ⟨u_27, ag_27⟩⟩⟩, ⟨⟨⟨sz_27, by_27⟩, ⟨ze_27, es_27⟩⟩, ⟨⟨u_28, ag_28⟩, ⟨sz_28, ⟨by_28, ze_28⟩⟩⟩⟩⟩⟩⟩, ⟨⟨⟨⟨⟨⟨es_28, u_29⟩, ⟨ag_29, sz_29⟩⟩, ⟨⟨by_29, ze_29⟩, ⟨es_29, u_30⟩⟩⟩, ⟨⟨⟨ag_30, sz_30⟩, ⟨by_30, ze_30⟩⟩, ⟨⟨es_30, u_31⟩, ⟨ag_31, sz_31⟩⟩⟩⟩, ⟨⟨⟨⟨by_31, ze_31⟩, ⟨es_31, u_32⟩⟩, ⟨⟨ag_32, sz_32⟩, ⟨by_32, ze_32⟩⟩⟩, ⟨⟨⟨es_32, u_33⟩, ⟨ag_33, sz_33⟩⟩, ⟨⟨by_33, ze_33⟩, ⟨es_33, ⟨u_34, ag_34⟩⟩⟩⟩⟩⟩, ⟨⟨⟨⟨⟨sz_34, by_34⟩, ⟨ze_34, es_34⟩⟩, ⟨⟨u_35, f_35_0⟩, ⟨f_35_1, f_35_2⟩⟩⟩, ⟨⟨⟨f_35_3, f_35_4⟩, ⟨ag_35, sz_35⟩⟩, ⟨⟨by_35, ze_35⟩, ⟨pl_35, es_35⟩⟩⟩⟩, ⟨⟨⟨⟨u_36, f_36_0⟩, ⟨f_36_1, f_36_2⟩⟩, ⟨⟨f_36_3, f_36_4⟩, ⟨ag_36, sz_36⟩⟩⟩, ⟨⟨⟨by_36, ze_36⟩, ⟨pl_36, es_36⟩⟩, ⟨⟨u_37, ag_37⟩, ⟨sz_37, ⟨by_37, ze_37⟩⟩⟩⟩⟩⟩⟩⟩⟩, ⟨⟨⟨⟨⟨⟨⟨⟨es_37, u_38⟩, ⟨ag_38, sz_38⟩⟩, ⟨⟨by_38, ze_38⟩, ⟨es_38, u_39⟩⟩⟩, ⟨⟨⟨ag_39, sz_39⟩, ⟨by_39, ze_39⟩⟩, ⟨⟨es_39, u_40⟩, ⟨ag_40, sz_40⟩⟩⟩⟩, ⟨⟨⟨⟨by_40, ze_40⟩, ⟨es_40, u_41⟩⟩, ⟨⟨ag_41, sz_41⟩, ⟨by_41, ze_41⟩⟩⟩, ⟨⟨⟨es_41, u_42⟩, ⟨ag_42, sz_42⟩⟩, ⟨⟨by_42, ze_42⟩, ⟨es_42, u_43⟩⟩⟩⟩⟩, ⟨⟨⟨⟨⟨ag_43, sz_43⟩, ⟨by_43, ze_43⟩⟩, ⟨⟨es_43, u_44⟩, ⟨ag_44, sz_44⟩⟩⟩, ⟨⟨⟨by_44, ze_44⟩, ⟨es_44, u_45⟩⟩, ⟨⟨ag_45, sz_45⟩, ⟨by_45, ze_45⟩⟩⟩⟩, ⟨⟨⟨⟨es_45, u_46⟩, ⟨ag_46, sz_46⟩⟩, ⟨⟨by_46, ze_46⟩, ⟨es_46, u_47⟩⟩⟩, ⟨⟨⟨ag_47, sz_47⟩, ⟨by_47, ze_47⟩⟩, ⟨⟨es_47, u_48⟩, ⟨ag_48, ⟨sz_48, by_48⟩⟩⟩⟩⟩⟩⟩, ⟨⟨⟨⟨⟨⟨ze_48, es_48⟩, ⟨u_49, ag_49⟩⟩, ⟨⟨sz_49, by_49⟩, ⟨ze_49, es_49⟩⟩⟩, ⟨⟨⟨u_50, ag_50⟩, ⟨sz_50, by_50⟩⟩, ⟨⟨ze_50, es_50⟩, ⟨u_51, ag_51⟩⟩⟩⟩, ⟨⟨⟨⟨sz_51, by_51⟩, ⟨ze_51, es_51⟩⟩, ⟨⟨u_52, ag_52⟩, ⟨sz_52, by_52⟩⟩⟩, ⟨⟨⟨ze_52, es_52⟩, ⟨u_53, ag_53⟩⟩, ⟨⟨sz_53, by_53⟩, ⟨ze_53, ⟨es_53, u_54⟩⟩⟩⟩⟩⟩, ⟨⟨⟨⟨⟨ag_54, sz_54⟩, ⟨by_54, ze_54⟩⟩, ⟨⟨es_54, u_55⟩, ⟨ag_55, sz_55⟩⟩⟩, ⟨⟨⟨by_55, ze_55⟩, ⟨es_55, u_56⟩⟩, ⟨⟨ag_56, sz_56⟩, ⟨by_56, ze_56⟩⟩⟩⟩, ⟨⟨⟨⟨es_56, u_57⟩, ⟨ag_57, sz_57⟩⟩, ⟨⟨by_57, ze_57⟩, ⟨es_57, u_58⟩⟩⟩, ⟨⟨⟨ag_58, sz_58⟩, ⟨by_58, ze_58⟩⟩, ⟨⟨es_58, u_59⟩, ⟨ag_59, ⟨sz_59, by_59⟩⟩⟩⟩⟩⟩⟩⟩, ⟨⟨⟨⟨⟨⟨⟨ze_59, es_59⟩, ⟨u_60, f_60_0⟩⟩, ⟨⟨f_60_1, f_60_2⟩, ⟨f_60_3, ag_60⟩⟩⟩, ⟨⟨⟨sz_60, by_60⟩, ⟨ze_60, pl_60⟩⟩, ⟨⟨es_60, u_61⟩, ⟨f_61_0, f_61_1⟩⟩⟩⟩, ⟨⟨⟨⟨f_61_2, f_61_3⟩, ⟨ag_61, sz_61⟩⟩, ⟨⟨by_61, ze_61⟩, ⟨pl_61, es_61⟩⟩⟩, ⟨⟨⟨u_62, ag_62⟩, ⟨sz_62, by_62⟩⟩, ⟨⟨ze_62, es_62⟩, ⟨u_63, ⟨f_63_0, ag_63⟩⟩⟩⟩⟩⟩, ⟨⟨⟨⟨⟨sz_63, by_63⟩, ⟨ze_63, pl_63⟩⟩, ⟨⟨es_63, u_64⟩, ⟨f_64_0, ag_64⟩⟩⟩, ⟨⟨⟨sz_64, by_64⟩, ⟨ze_64, pl_64⟩⟩, ⟨⟨es_64, u_65⟩, ⟨ag_65, sz_65⟩⟩⟩⟩, ⟨⟨⟨⟨by_65, ze_65⟩, ⟨es_65, u_66⟩⟩, ⟨⟨ag_66, sz_66⟩, ⟨by_66, ze_66⟩⟩⟩, ⟨⟨⟨u8_66, es_66⟩, ⟨u_67, ag_67⟩⟩, ⟨⟨sz_67, by_67⟩, ⟨ze_67, ⟨u8_67, es_67⟩⟩⟩⟩⟩⟩⟩, ⟨⟨⟨⟨⟨⟨u_68, ag_68⟩, ⟨sz_68, by_68⟩⟩, ⟨⟨ze_68, es_68⟩, ⟨u_69, ag_69⟩⟩⟩, ⟨⟨⟨sz_69, by_69⟩, ⟨ze_69, es_69⟩⟩, ⟨⟨u_70, ag_70⟩, ⟨sz_70, by_70⟩⟩⟩⟩, ⟨⟨⟨⟨ze_70, es_70⟩, ⟨u_71, ag_71⟩⟩, ⟨⟨sz_71, by_71⟩, ⟨ze_71, es_71⟩⟩⟩, ⟨⟨⟨u_72, f_72_0⟩, ⟨f_72_1, f_72_2⟩⟩, ⟨⟨f_72_3, f_72_4⟩, ⟨f_72_5, ⟨f_72_6, f_72_7⟩⟩⟩⟩⟩⟩, ⟨⟨⟨⟨⟨f_72_8, f_72_9⟩, ⟨f_72_10, ag_72⟩⟩, ⟨⟨sz_72, by_72⟩, ⟨ze_72, pl_72⟩⟩⟩, ⟨⟨⟨es_72, u_73⟩, ⟨f_73_0, f_73_1⟩⟩, ⟨⟨f_73_2, f_73_3⟩, ⟨f_73_4, f_73_5⟩⟩⟩⟩, ⟨⟨⟨⟨f_73_6, f_73_7⟩, ⟨f_73_8, f_73_9⟩⟩, ⟨⟨f_73_10, ag_73⟩, ⟨sz_73, by_73⟩⟩⟩, ⟨⟨⟨ze_73, pl_73⟩, ⟨es_73, u_74⟩⟩, ⟨⟨ag_74, sz_74⟩, ⟨by_74, ⟨ze_74, es_74⟩⟩⟩⟩⟩⟩⟩⟩⟩⟩
end Go.Abs
/- PcShelf: the contract of slices.Grow at this program, out of the shelf. Conditions: none. -/
namespace Go.Proofs
open Go.Shelf
def Try.grow_ren : Go.Shelf.Ren := ⟨fun | 4 => 22 | n => n, fun | 25 => 36 | n => n, fun | n => n⟩
theorem Try.grow : Go.Proofs.Lays8.n4 Try.prog Try.grow_ren := {
  mixed := by kernel_rfl
  f4 := ⟨Try.f22.name, by decide, Try.func22.trans (congrArg some (by kernel_rfl))⟩
  t0 := Try.underlying0
  a0 := Try.isAgg0
  z0 := Try.sizeOf0
  v0 := Try.zeroValue0
  t3 := Try.underlying3
  a3 := Try.isAgg3
  z3 := Try.sizeOf3
  v3 := Try.zeroValue3
  t4 := Try.underlying4
  a4 := Try.isAgg4
  z4 := Try.sizeOf4
  v4 := Try.zeroValue4
  t9 := Try.underlying9
  a9 := Try.isAgg9
  z9 := Try.sizeOf9
  v9 := Try.zeroValue9
  t20 := Try.underlying20
  a20 := Try.isAgg20
  z20 := Try.sizeOf20
  v20 := Try.zeroValue20
  t22 := Try.underlying22
  a22 := Try.isAgg22
  z22 := Try.sizeOf22
  v22 := Try.zeroValue22 }
end Go.Proofs
/- Pc0: slices.Grow of a nil slice, by its contract. Conditions: none. -/
set_option maxRecDepth 100000
namespace Go.Abs
open Go.Proofs Go.RowKit
/-- A nil slice grown: nothing lies in it, and its block is its own. -/
def growP (sz : Nat) : List Value → AHeap → Option (Value × AHeap)
  | [.slice none 0 0, .int .i64 n], h => if n = 0 then some (.slice none 0 0, h) else if 0 < n ∧ n ≤ 1000 then some (.slice (some ⟨h.length, 0, none⟩) 0 0, h ++ [some (.cells ⟨[], sz, false⟩)]) else none
  | _, _ => none
theorem grow_inv {sz : Nat} {args : List Value} {h h' : AHeap} {v : Value} (he : growP sz args h = some (v, h')) : ∃ n : Int, args = [.slice none 0 0, .int .i64 n] ∧
    ((n = 0 ∧ v = .slice none 0 0 ∧ h' = h) ∨ (0 < n ∧ n ≤ 1000 ∧ v = .slice (some ⟨h.length, 0, none⟩) 0 0 ∧ h' = h ++ [some (.cells ⟨[], sz, false⟩)])) := by
  unfold growP at he
  split at he
  · rename_i n
    refine ⟨n, rfl, ?_⟩
    split at he
    · rename_i hn; cases he; exact .inl ⟨hn, rfl, rfl⟩
    · split at he
      · rename_i hn; cases he; exact .inr ⟨hn.1, hn.2, rfl, rfl⟩
      · cases he
  · cases he
theorem grow_len (sz : Nat) : CallLen fun _ => growP sz := by
  intro f args h v h' he
  simp only [growP] at he
  split at he
  · split at he
    · cases he; exact Nat.le_refl _
    · split at he
      · cases he; simp
      · cases he
  · cases he
theorem info36 : ∃ i z, Try.prog.info? 36 = some i ∧ i.zero = some z ∧ i.size = 5 ∧ i.bytes = 48 ∧ z.cells.size = 5 := by
  have h1 := sz_36
  have h2 := by_36
  have h3 := ze_36
  unfold sizeA at h1
  unfold bytesA at h2
  unfold zeroA at h3
  cases hi : Try.prog.info? 36 with
  | none => rw [hi] at h1; cases h1
  | some i =>
    rw [hi] at h1 h2 h3
    cases hz : i.zero with
    | none => simp only at h3; rw [hz] at h3; cases h3
    | some z =>
      simp only at h3
      rw [hz] at h3
      simp only at h3
      split at h3
      · have h4 := congrArg List.length (Option.some.inj h3)
        rw [Array.length_toList] at h4
        exact ⟨i, z, rfl, hz, by simpa using h1, by simpa using h2, h4⟩
      · cases h3
theorem grow_ok {c : Ctx} {B : Nat} (hP : c.P = Try.prog) : ∀ args h v h', growP 5 args h = some (v, h') → ∀ E w args', Sim c.G B E h w → LR E args args' → Free E h h' →
    CallOK c.P 22 args'.toArray w fun e w' => ∃ E' v', e = .returned v' ∧ Post c.G B E E' h h' w w' ∧ VR E' v v' := by
  intro args h v h' he E w args' s hl hf
  rw [hP]
  obtain ⟨i0, z, hi0, hz0, hsz, hby, hzs⟩ := info36
  obtain ⟨n, rfl, hn⟩ := grow_inv he
  have hargs : args' = [.slice none 0 0, .int .i64 n] := by
    rcases args' with _ | ⟨a, _ | ⟨b, _ | ⟨x, l⟩⟩⟩
    · exact absurd hl.1 (by simp)
    · exact absurd hl.1 (by simp)
    · obtain ⟨h1, h2⟩ := hl.uncons
      obtain ⟨h3, _⟩ := h2.uncons
      cases h1
      cases h3
      rfl
    · exact absurd hl.1 (by simp)
  subst hargs
  refine callOK_of Try.func22 rfl (by decide +kernel) ?_
  rcases hn with ⟨rfl, rfl, rfl⟩ | ⟨hn1, hn2, rfl, rfl⟩
  · refine (Any8.slices_Grow_room Try.grow none 0 0 0 w (Nat.le_refl _) (by omega) (by omega) (Nat.le_refl _)).mono fun e w' hw => ?_
    obtain ⟨rfl, rfl⟩ := hw
    exact ⟨E, _, rfl, Post.refl s, .nilsl⟩
  · obtain ⟨m, rfl⟩ : ∃ m : Nat, n = (m : Int) := ⟨n.toNat, by omega⟩
    have hfree : E h.length = none := hf _ (Nat.le_refl _) (by simp)
    refine (Any8.slices_Grow_grow Try.grow i0 z hi0 hz0 (by omega) none 0 0 m [] w (Nat.le_refl _) (by omega) (by rw [hby]; omega) (by omega) (by simp) (fun _ => rfl) (fun a ha => by cases ha)).mono fun e w' hw => ?_
    obtain ⟨rfl, rfl⟩ := hw
    have hp := row_sim (cells := []) (esz := 5) s hfree (c := ([] : List Value).toArray ++ Builtin.zeroCells z.cells (0 + m - 0) ++ Builtin.zeroCells z.cells (grownCap w (0 + m) 0 (Try.grow_ren.t 25) - (0 + m))) (el := Try.grow_ren.t 25) (fun j v hj => by simp at hj) (d0 := w.drew) rfl rfl rfl rfl
    have hge := grownCap_ge w (0 + m) 0 (Try.grow_ren.t 25)
    generalize grownCap w (0 + m) 0 (Try.grow_ren.t 25) = G at *
    refine ⟨_, _, rfl, hp, VR.sl (e := ⟨w.heap.size, 0, _, 5⟩) (by simp [Env.put]; rfl) (Nat.zero_le _) (fun _ => ?_) (fun h => absurd rfl h)⟩
    simp only [Array.size_append, List.size_toArray, List.length_nil, Builtin.zeroCells, Array.size_map, Array.size_range, hzs, ← Nat.add_mul]
    omega
end Go.Abs
/- Pcap 1: the checksum's functions: half, table, Sum. Conditions: none. -/
set_option maxRecDepth 100000
set_option linter.unusedSimpArgs false
namespace Go.Abs
open Go.Proofs
@[reducible] noncomputable def cx : Ctx := { P := Try.prog, G := fun _ => none, prim := fun f => if f = 22 then some (growP 5) else none }
/-- One step of the checksum. -/
def half (c : BitVec 32) : BitVec 32 := if (c &&& 1#32).toNat = 1 then (c >>> 1) ^^^ 3988292384#32 else c >>> 1
def halves : Nat → BitVec 32 → BitVec 32
  | 0, c => c
  | n + 1, c => half (halves n c)
def row (i : Nat) : BitVec 32 := halves 8 (BitVec.ofNat 32 i)
theorem half_fw (c : BitVec 32) (h : AHeap) (K : Value → AHeap → Prop) : FW cx 27 [.int .u32 c.toNat] h K = K (.int .u32 (half c).toNat) h := by
  have hw : FW cx 27 [.int .u32 c.toNat] h (fun v h' => v = .int .u32 (half c).toNat ∧ h' = h) := by
    refine FW_f Try.func27 rfl (by decide +kernel) ?_
    have e1 : BitVec.ofInt 32 1 = 1#32 := by decide
    have e2 : BitVec.ofInt 32 3988292384 = 3988292384#32 := by decide
    simp -dsimp -implicitDefEqProofs only [↓RWn, ↓RWc, ↓RWg', gsome, ↓PWn, ↓PWs, someP_s, someP_n, evA_tmp, evA_int, evA_str, evA_bool, evA_nilp, evA_nils, evA_nilf, evA_nili, evA_func, evL_n, evL_c, evP_n, evP_c, ↓CW_eq, ↓CB_bool, ↓GW_t, ↓GW_f, ↓OW_move, ↓OW_assign, ↓OW_pick, ↓OW_nilCheck, ↓OW_bin, ↓OW_un, ↓OW_makeFunc, ↓OW_fieldAddr, ↓OW_field, ↓OW_indexAddr, ↓OW_index, ↓OW_extract, ↓OW_build, ↓OW_len, ↓OW_min, ↓OW_max, ↓OW_load, ↓OW_store, ↓OW_alloc, ↓OW_box, ↓OW_convert, ↓OW_slice, ↓OW_buildSlice, ↓OW_makeSlice, ↓OW_call, ↓OW_append, b_add, b_sub, b_mul, b_quo, b_rem, b_and32, b_or32, b_xor32, b_and8, b_or8, b_xor8, b_shr32l, b_shr64l, ofInt32, b_eql, b_neq, b_lss, b_leq, b_gtr, b_geq, s_add, s_eql, s_neq, bb_eql, bb_neq, un_not, un_neg, un_xor32, isConstA, conv_int, conv_int2, lenA, ↓AW_skip, ↓AW_ret, ↓AW_exit, ↓AW_reg, ↓AW_cond, ↓AW_block, ↓tQn, ↓tQe, ↓tQr, ↓bQn, ↓bQe, ↓bQr, ↓rQn, ↓rQr, res_n, res_t, res_c, one1, one0, one2, fget_set, fget_cons0, fget_consS, Nat.reduceEqDiff, Nat.reduceLT, Nat.reduceAdd, Int.reduceNeg, Int.reduceLT, Int.reduceLE, Int.reduceToNat, Int.reduceEq, ↓reduceIte, Int.toNat_natCast, Nat.mul_one, Nat.zero_add, Nat.add_zero, and_self, true_and, and_true, ite_true, ite_false, decide_eq_true_eq, Bool.false_eq_true, List.toList_toArray, List.getElem?_toArray, List.getElem?_cons_zero, List.getElem?_cons_succ, Option.toList, List.nil_append, List.append_nil, List.cons_append, ↓AW_draw, ↓RWDn, ↓RWDc, ↓RWDg', ↓DQ_move, ↓DQ_assign, ↓DQ_pick, ↓DQ_nilCheck, ↓DQ_bin, ↓DQ_un, ↓DQ_makeFunc, ↓DQ_makeIface, ↓DQ_fieldAddr, ↓DQ_field, ↓DQ_indexAddr, ↓DQ_index, ↓DQ_extract, ↓DQ_build, ↓DQ_len, ↓DQ_min, ↓DQ_max, ↓DQ_load, ↓DQ_convert, ↓DQ_slice, ↓DQ_alloc, ↓DQ_box, ↓DQ_buildSlice, ↓DQ_makeSlice, ↓DQ_range, ↓AW_seq, e1, e2]
    unfold half
    by_cases hc : (c &&& 1#32).toNat = 1
    · simp [hc]
    · have : ¬ ((c &&& 1#32).toNat : Int) = 1 := by omega
      simp only [hc, this, if_false]
  obtain ⟨v, h', he, rfl, rfl⟩ := hw
  exact propext ⟨fun ⟨v2, h2, he2, hk⟩ => by rw [he] at he2; cases he2; exact hk, fun hk => ⟨_, _, he, hk⟩⟩
def rowsTo (i : Nat) : List Value := (List.range 256).map fun j => if j < i then .int .u32 (row j).toNat else .int .u32 0
theorem rowsTo_len (i : Nat) : (rowsTo i).length = 256 := by unfold rowsTo; rw [List.length_map, List.length_range]
theorem rowsTo_0 : rowsTo 0 = List.replicate 256 (.int .u32 0) := by
  refine List.eq_replicate_iff.2 ⟨rowsTo_len 0, fun b hb => ?_⟩
  unfold rowsTo at hb
  obtain ⟨j, _, rfl⟩ := List.mem_map.1 hb
  rfl
theorem rowsTo_get (i j : Nat) (hj : j < 256) : (rowsTo i)[j]? = some (if j < i then .int .u32 (row j).toNat else .int .u32 0) := by
  unfold rowsTo
  rw [List.getElem?_map, List.getElem?_range hj]
  rfl
theorem rowsTo_set (i : Nat) (hi : i < 256) : (rowsTo i).set i (.int .u32 (row i).toNat) = rowsTo (i + 1) := by
  apply List.ext_getElem?
  intro j
  by_cases hj : j < 256
  · rw [List.getElem?_set, rowsTo_get _ _ hj, rowsTo_get _ _ hj, rowsTo_len]
    by_cases he : i = j
    · subst he; simp [hi]
    · rw [if_neg he]
      by_cases hl : j < i
      · rw [if_pos hl, if_pos (by omega)]
      · rw [if_neg hl, if_neg (by omega)]
  · rw [List.getElem?_eq_none (by rw [List.length_set, rowsTo_len]; omega), List.getElem?_eq_none (by rw [rowsTo_len]; omega)]
theorem table_fw (h0 : AHeap) : Quiet cx 24 [] h0 (.agg (rowsTo 256).toArray) := by
  refine FW_f Try.func24 rfl (by decide +kernel) ?_
  simp -dsimp -implicitDefEqProofs only [↓RWn, ↓RWc, ↓RWg', gsome, ↓PWn, ↓PWs, someP_s, someP_n, evA_tmp, evA_int, evA_str, evA_bool, evA_nilp, evA_nils, evA_nilf, evA_nili, evA_func, evL_n, evL_c, evP_n, evP_c, ↓CW_eq, ↓CB_bool, ↓GW_t, ↓GW_f, ↓OW_move, ↓OW_assign, ↓OW_pick, ↓OW_nilCheck, ↓OW_bin, ↓OW_un, ↓OW_makeFunc, ↓OW_fieldAddr, ↓OW_field, ↓OW_indexAddr, ↓OW_index, ↓OW_extract, ↓OW_build, ↓OW_len, ↓OW_min, ↓OW_max, ↓OW_load, ↓OW_store, ↓OW_alloc, ↓OW_box, ↓OW_convert, ↓OW_slice, ↓OW_buildSlice, ↓OW_makeSlice, ↓OW_call, ↓OW_append, b_add, b_sub, b_mul, b_quo, b_rem, b_and32, b_or32, b_xor32, b_and8, b_or8, b_xor8, b_shr32l, b_shr64l, ofInt32, b_eql, b_neq, b_lss, b_leq, b_gtr, b_geq, s_add, s_eql, s_neq, bb_eql, bb_neq, un_not, un_neg, un_xor32, isConstA, conv_int, conv_int2, lenA, ↓AW_skip, ↓AW_ret, ↓AW_exit, ↓AW_reg, ↓AW_cond, ↓AW_block, ↓tQn, ↓tQe, ↓tQr, ↓bQn, ↓bQe, ↓bQr, ↓rQn, ↓rQr, res_n, res_t, res_c, one1, one0, one2, fget_set, fget_cons0, fget_consS, Nat.reduceEqDiff, Nat.reduceLT, Nat.reduceAdd, Int.reduceNeg, Int.reduceLT, Int.reduceLE, Int.reduceToNat, Int.reduceEq, ↓reduceIte, Int.toNat_natCast, Nat.mul_one, Nat.zero_add, Nat.add_zero, and_self, true_and, and_true, ite_true, ite_false, decide_eq_true_eq, Bool.false_eq_true, List.toList_toArray, List.getElem?_toArray, List.getElem?_cons_zero, List.getElem?_cons_succ, Option.toList, List.nil_append, List.append_nil, List.cons_append, ↓AW_draw, ↓RWDn, ↓RWDc, ↓RWDg', ↓DQ_move, ↓DQ_assign, ↓DQ_pick, ↓DQ_nilCheck, ↓DQ_bin, ↓DQ_un, ↓DQ_makeFunc, ↓DQ_makeIface, ↓DQ_fieldAddr, ↓DQ_field, ↓DQ_indexAddr, ↓DQ_index, ↓DQ_extract, ↓DQ_build, ↓DQ_len, ↓DQ_min, ↓DQ_max, ↓DQ_load, ↓DQ_convert, ↓DQ_slice, ↓DQ_alloc, ↓DQ_box, ↓DQ_buildSlice, ↓DQ_makeSlice, ↓DQ_range, ↓AW_seq, tys, ↓AW_loop]
  refine LW_rule (fun m fr h => ∃ i : Nat, i ≤ 256 ∧ m = 256 - i ∧ fget fr 3 = .int .i64 i ∧ fget fr 0 = .pointer (some ⟨h0.length, 0, none⟩) ∧ Ext h0 h ∧ blkA h h0.length = some ⟨rowsTo i, 1, false⟩) ?_ 256 _ _ ⟨0, by omega, rfl, ?_, ?_, .app _ _, ?_⟩
  · intro m fr h ⟨i, hi, hm, h3, h1, he, hb⟩
    simp -dsimp -implicitDefEqProofs only [↓RWn, ↓RWc, ↓RWg', gsome, ↓PWn, ↓PWs, someP_s, someP_n, evA_tmp, evA_int, evA_str, evA_bool, evA_nilp, evA_nils, evA_nilf, evA_nili, evA_func, evL_n, evL_c, evP_n, evP_c, ↓CW_eq, ↓CB_bool, ↓GW_t, ↓GW_f, ↓OW_move, ↓OW_assign, ↓OW_pick, ↓OW_nilCheck, ↓OW_bin, ↓OW_un, ↓OW_makeFunc, ↓OW_fieldAddr, ↓OW_field, ↓OW_indexAddr, ↓OW_index, ↓OW_extract, ↓OW_build, ↓OW_len, ↓OW_min, ↓OW_max, ↓OW_load, ↓OW_store, ↓OW_alloc, ↓OW_box, ↓OW_convert, ↓OW_slice, ↓OW_buildSlice, ↓OW_makeSlice, ↓OW_call, ↓OW_append, b_add, b_sub, b_mul, b_quo, b_rem, b_and32, b_or32, b_xor32, b_and8, b_or8, b_xor8, b_shr32l, b_shr64l, ofInt32, b_eql, b_neq, b_lss, b_leq, b_gtr, b_geq, s_add, s_eql, s_neq, bb_eql, bb_neq, un_not, un_neg, un_xor32, isConstA, conv_int, conv_int2, lenA, ↓AW_skip, ↓AW_ret, ↓AW_exit, ↓AW_reg, ↓AW_cond, ↓AW_block, ↓tQn, ↓tQe, ↓tQr, ↓bQn, ↓bQe, ↓bQr, ↓rQn, ↓rQr, res_n, res_t, res_c, one1, one0, one2, fget_set, fget_cons0, fget_consS, Nat.reduceEqDiff, Nat.reduceLT, Nat.reduceAdd, Int.reduceNeg, Int.reduceLT, Int.reduceLE, Int.reduceToNat, Int.reduceEq, ↓reduceIte, Int.toNat_natCast, Nat.mul_one, Nat.zero_add, Nat.add_zero, and_self, true_and, and_true, ite_true, ite_false, decide_eq_true_eq, Bool.false_eq_true, List.toList_toArray, List.getElem?_toArray, List.getElem?_cons_zero, List.getElem?_cons_succ, Option.toList, List.nil_append, List.append_nil, List.cons_append, ↓AW_draw, ↓RWDn, ↓RWDc, ↓RWDg', ↓DQ_move, ↓DQ_assign, ↓DQ_pick, ↓DQ_nilCheck, ↓DQ_bin, ↓DQ_un, ↓DQ_makeFunc, ↓DQ_makeIface, ↓DQ_fieldAddr, ↓DQ_field, ↓DQ_indexAddr, ↓DQ_index, ↓DQ_extract, ↓DQ_build, ↓DQ_len, ↓DQ_min, ↓DQ_max, ↓DQ_load, ↓DQ_convert, ↓DQ_slice, ↓DQ_alloc, ↓DQ_box, ↓DQ_buildSlice, ↓DQ_makeSlice, ↓DQ_range, ↓AW_seq, tys, ↓AW_loop, h3, h1]
    by_cases hlt' : i < 256
    · have hlt : (i : Int) < 256 := by omega
      rw [if_pos hlt]
      have hc : IntKind.u32.wrap (i : Int) = ((BitVec.ofNat 32 i).toNat : Int) := by
        rw [wrapu32, BitVec.toNat_ofNat]; omega
      refine LW_rule (fun m2 fr h2 => ∃ j : Nat, j ≤ 8 ∧ m2 = 8 - j ∧ fget fr 8 = .int .i64 j ∧ fget fr 2 = .int .u32 (halves j (BitVec.ofNat 32 i)).toNat ∧ fget fr 3 = .int .i64 i ∧ fget fr 1 = .int .i64 i ∧ fget fr 0 = .pointer (some ⟨h0.length, 0, none⟩) ∧ h2 = h) ?_ 8 _ _ ⟨0, by omega, rfl, ?_, ?_, ?_, ?_, ?_, rfl⟩
      · intro m2 fr2 h2 ⟨j, hj, hm2, g8, g2, g3, g1, g0, hh⟩
        subst hh
        simp -dsimp -implicitDefEqProofs only [↓RWn, ↓RWc, ↓RWg', gsome, ↓PWn, ↓PWs, someP_s, someP_n, evA_tmp, evA_int, evA_str, evA_bool, evA_nilp, evA_nils, evA_nilf, evA_nili, evA_func, evL_n, evL_c, evP_n, evP_c, ↓CW_eq, ↓CB_bool, ↓GW_t, ↓GW_f, ↓OW_move, ↓OW_assign, ↓OW_pick, ↓OW_nilCheck, ↓OW_bin, ↓OW_un, ↓OW_makeFunc, ↓OW_fieldAddr, ↓OW_field, ↓OW_indexAddr, ↓OW_index, ↓OW_extract, ↓OW_build, ↓OW_len, ↓OW_min, ↓OW_max, ↓OW_load, ↓OW_store, ↓OW_alloc, ↓OW_box, ↓OW_convert, ↓OW_slice, ↓OW_buildSlice, ↓OW_makeSlice, ↓OW_call, ↓OW_append, b_add, b_sub, b_mul, b_quo, b_rem, b_and32, b_or32, b_xor32, b_and8, b_or8, b_xor8, b_shr32l, b_shr64l, ofInt32, b_eql, b_neq, b_lss, b_leq, b_gtr, b_geq, s_add, s_eql, s_neq, bb_eql, bb_neq, un_not, un_neg, un_xor32, isConstA, conv_int, conv_int2, lenA, ↓AW_skip, ↓AW_ret, ↓AW_exit, ↓AW_reg, ↓AW_cond, ↓AW_block, ↓tQn, ↓tQe, ↓tQr, ↓bQn, ↓bQe, ↓bQr, ↓rQn, ↓rQr, res_n, res_t, res_c, one1, one0, one2, fget_set, fget_cons0, fget_consS, Nat.reduceEqDiff, Nat.reduceLT, Nat.reduceAdd, Int.reduceNeg, Int.reduceLT, Int.reduceLE, Int.reduceToNat, Int.reduceEq, ↓reduceIte, Int.toNat_natCast, Nat.mul_one, Nat.zero_add, Nat.add_zero, and_self, true_and, and_true, ite_true, ite_false, decide_eq_true_eq, Bool.false_eq_true, List.toList_toArray, List.getElem?_toArray, List.getElem?_cons_zero, List.getElem?_cons_succ, Option.toList, List.nil_append, List.append_nil, List.cons_append, ↓AW_draw, ↓RWDn, ↓RWDc, ↓RWDg', ↓DQ_move, ↓DQ_assign, ↓DQ_pick, ↓DQ_nilCheck, ↓DQ_bin, ↓DQ_un, ↓DQ_makeFunc, ↓DQ_makeIface, ↓DQ_fieldAddr, ↓DQ_field, ↓DQ_indexAddr, ↓DQ_index, ↓DQ_extract, ↓DQ_build, ↓DQ_len, ↓DQ_min, ↓DQ_max, ↓DQ_load, ↓DQ_convert, ↓DQ_slice, ↓DQ_alloc, ↓DQ_box, ↓DQ_buildSlice, ↓DQ_makeSlice, ↓DQ_range, ↓AW_seq, tys, g8, g2, g3, g1, g0, half_fw]
        by_cases hj2 : j < 8
        · rw [if_pos (show (j : Int) < 8 by omega)]
          refine ⟨8 - (j + 1), by omega, j + 1, by omega, rfl, ?_⟩
          rw [wrap64 (by omega) (by omega)]; exact ⟨rfl, rfl⟩
        · rw [if_neg (show ¬ (j : Int) < 8 by omega)]
          have hj8 : j = 8 := by omega
          subst hj8
          rw [idxArr u_54 sz_50 hlt']
          simp -dsimp -implicitDefEqProofs only [↓RWn, ↓RWc, ↓RWg', gsome, ↓PWn, ↓PWs, someP_s, someP_n, evA_tmp, evA_int, evA_str, evA_bool, evA_nilp, evA_nils, evA_nilf, evA_nili, evA_func, evL_n, evL_c, evP_n, evP_c, ↓CW_eq, ↓CB_bool, ↓GW_t, ↓GW_f, ↓OW_move, ↓OW_assign, ↓OW_pick, ↓OW_nilCheck, ↓OW_bin, ↓OW_un, ↓OW_makeFunc, ↓OW_fieldAddr, ↓OW_field, ↓OW_indexAddr, ↓OW_index, ↓OW_extract, ↓OW_build, ↓OW_len, ↓OW_min, ↓OW_max, ↓OW_load, ↓OW_store, ↓OW_alloc, ↓OW_box, ↓OW_convert, ↓OW_slice, ↓OW_buildSlice, ↓OW_makeSlice, ↓OW_call, ↓OW_append, b_add, b_sub, b_mul, b_quo, b_rem, b_and32, b_or32, b_xor32, b_and8, b_or8, b_xor8, b_shr32l, b_shr64l, ofInt32, b_eql, b_neq, b_lss, b_leq, b_gtr, b_geq, s_add, s_eql, s_neq, bb_eql, bb_neq, un_not, un_neg, un_xor32, isConstA, conv_int, conv_int2, lenA, ↓AW_skip, ↓AW_ret, ↓AW_exit, ↓AW_reg, ↓AW_cond, ↓AW_block, ↓tQn, ↓tQe, ↓tQr, ↓bQn, ↓bQe, ↓bQr, ↓rQn, ↓rQr, res_n, res_t, res_c, one1, one0, one2, fget_set, fget_cons0, fget_consS, Nat.reduceEqDiff, Nat.reduceLT, Nat.reduceAdd, Int.reduceNeg, Int.reduceLT, Int.reduceLE, Int.reduceToNat, Int.reduceEq, ↓reduceIte, Int.toNat_natCast, Nat.mul_one, Nat.zero_add, Nat.add_zero, and_self, true_and, and_true, ite_true, ite_false, decide_eq_true_eq, Bool.false_eq_true, List.toList_toArray, List.getElem?_toArray, List.getElem?_cons_zero, List.getElem?_cons_succ, Option.toList, List.nil_append, List.append_nil, List.cons_append, ↓AW_draw, ↓RWDn, ↓RWDc, ↓RWDg', ↓DQ_move, ↓DQ_assign, ↓DQ_pick, ↓DQ_nilCheck, ↓DQ_bin, ↓DQ_un, ↓DQ_makeFunc, ↓DQ_makeIface, ↓DQ_fieldAddr, ↓DQ_field, ↓DQ_indexAddr, ↓DQ_index, ↓DQ_extract, ↓DQ_build, ↓DQ_len, ↓DQ_min, ↓DQ_max, ↓DQ_load, ↓DQ_convert, ↓DQ_slice, ↓DQ_alloc, ↓DQ_box, ↓DQ_buildSlice, ↓DQ_makeSlice, ↓DQ_range]
          rw [store1 (v := .int .u32 (halves 8 (BitVec.ofNat 32 i)).toNat) sz_50 rfl rfl hb rfl (by rw [rowsTo_len]; omega)]
          simp -dsimp -implicitDefEqProofs only [↓RWn, ↓RWc, ↓RWg', gsome, ↓PWn, ↓PWs, someP_s, someP_n, evA_tmp, evA_int, evA_str, evA_bool, evA_nilp, evA_nils, evA_nilf, evA_nili, evA_func, evL_n, evL_c, evP_n, evP_c, ↓CW_eq, ↓CB_bool, ↓GW_t, ↓GW_f, ↓OW_move, ↓OW_assign, ↓OW_pick, ↓OW_nilCheck, ↓OW_bin, ↓OW_un, ↓OW_makeFunc, ↓OW_fieldAddr, ↓OW_field, ↓OW_indexAddr, ↓OW_index, ↓OW_extract, ↓OW_build, ↓OW_len, ↓OW_min, ↓OW_max, ↓OW_load, ↓OW_store, ↓OW_alloc, ↓OW_box, ↓OW_convert, ↓OW_slice, ↓OW_buildSlice, ↓OW_makeSlice, ↓OW_call, ↓OW_append, b_add, b_sub, b_mul, b_quo, b_rem, b_and32, b_or32, b_xor32, b_and8, b_or8, b_xor8, b_shr32l, b_shr64l, ofInt32, b_eql, b_neq, b_lss, b_leq, b_gtr, b_geq, s_add, s_eql, s_neq, bb_eql, bb_neq, un_not, un_neg, un_xor32, isConstA, conv_int, conv_int2, lenA, ↓AW_skip, ↓AW_ret, ↓AW_exit, ↓AW_reg, ↓AW_cond, ↓AW_block, ↓tQn, ↓tQe, ↓tQr, ↓bQn, ↓bQe, ↓bQr, ↓rQn, ↓rQr, res_n, res_t, res_c, one1, one0, one2, fget_set, fget_cons0, fget_consS, Nat.reduceEqDiff, Nat.reduceLT, Nat.reduceAdd, Int.reduceNeg, Int.reduceLT, Int.reduceLE, Int.reduceToNat, Int.reduceEq, ↓reduceIte, Int.toNat_natCast, Nat.mul_one, Nat.zero_add, Nat.add_zero, and_self, true_and, and_true, ite_true, ite_false, decide_eq_true_eq, Bool.false_eq_true, List.toList_toArray, List.getElem?_toArray, List.getElem?_cons_zero, List.getElem?_cons_succ, Option.toList, List.nil_append, List.append_nil, List.cons_append, ↓AW_draw, ↓RWDn, ↓RWDc, ↓RWDg', ↓DQ_move, ↓DQ_assign, ↓DQ_pick, ↓DQ_nilCheck, ↓DQ_bin, ↓DQ_un, ↓DQ_makeFunc, ↓DQ_makeIface, ↓DQ_fieldAddr, ↓DQ_field, ↓DQ_indexAddr, ↓DQ_index, ↓DQ_extract, ↓DQ_build, ↓DQ_len, ↓DQ_min, ↓DQ_max, ↓DQ_load, ↓DQ_convert, ↓DQ_slice, ↓DQ_alloc, ↓DQ_box, ↓DQ_buildSlice, ↓DQ_makeSlice, ↓DQ_range, ↓AW_seq, tys, g3, g0]
          refine ⟨256 - (i + 1), by omega, i + 1, by omega, rfl, ?_, he.set (Nat.le_refl _) _, ?_⟩
          · rw [wrap64 (by omega) (by omega)]; rfl
          · rw [blkA_set hb, ← rowsTo_set i hlt']; rfl
      all_goals simp -dsimp -implicitDefEqProofs only [↓RWn, ↓RWc, ↓RWg', gsome, ↓PWn, ↓PWs, someP_s, someP_n, evA_tmp, evA_int, evA_str, evA_bool, evA_nilp, evA_nils, evA_nilf, evA_nili, evA_func, evL_n, evL_c, evP_n, evP_c, ↓CW_eq, ↓CB_bool, ↓GW_t, ↓GW_f, ↓OW_move, ↓OW_assign, ↓OW_pick, ↓OW_nilCheck, ↓OW_bin, ↓OW_un, ↓OW_makeFunc, ↓OW_fieldAddr, ↓OW_field, ↓OW_indexAddr, ↓OW_index, ↓OW_extract, ↓OW_build, ↓OW_len, ↓OW_min, ↓OW_max, ↓OW_load, ↓OW_store, ↓OW_alloc, ↓OW_box, ↓OW_convert, ↓OW_slice, ↓OW_buildSlice, ↓OW_makeSlice, ↓OW_call, ↓OW_append, b_add, b_sub, b_mul, b_quo, b_rem, b_and32, b_or32, b_xor32, b_and8, b_or8, b_xor8, b_shr32l, b_shr64l, ofInt32, b_eql, b_neq, b_lss, b_leq, b_gtr, b_geq, s_add, s_eql, s_neq, bb_eql, bb_neq, un_not, un_neg, un_xor32, isConstA, conv_int, conv_int2, lenA, ↓AW_skip, ↓AW_ret, ↓AW_exit, ↓AW_reg, ↓AW_cond, ↓AW_block, ↓tQn, ↓tQe, ↓tQr, ↓bQn, ↓bQe, ↓bQr, ↓rQn, ↓rQr, res_n, res_t, res_c, one1, one0, one2, fget_set, fget_cons0, fget_consS, Nat.reduceEqDiff, Nat.reduceLT, Nat.reduceAdd, Int.reduceNeg, Int.reduceLT, Int.reduceLE, Int.reduceToNat, Int.reduceEq, ↓reduceIte, Int.toNat_natCast, Nat.mul_one, Nat.zero_add, Nat.add_zero, and_self, true_and, and_true, ite_true, ite_false, decide_eq_true_eq, Bool.false_eq_true, List.toList_toArray, List.getElem?_toArray, List.getElem?_cons_zero, List.getElem?_cons_succ, Option.toList, List.nil_append, List.append_nil, List.cons_append, ↓AW_draw, ↓RWDn, ↓RWDc, ↓RWDg', ↓DQ_move, ↓DQ_assign, ↓DQ_pick, ↓DQ_nilCheck, ↓DQ_bin, ↓DQ_un, ↓DQ_makeFunc, ↓DQ_makeIface, ↓DQ_fieldAddr, ↓DQ_field, ↓DQ_indexAddr, ↓DQ_index, ↓DQ_extract, ↓DQ_build, ↓DQ_len, ↓DQ_min, ↓DQ_max, ↓DQ_load, ↓DQ_convert, ↓DQ_slice, ↓DQ_alloc, ↓DQ_box, ↓DQ_buildSlice, ↓DQ_makeSlice, ↓DQ_range, h3, h1]
      · rfl
      · rw [hc]; rfl
    · rw [if_neg (show ¬ (i : Int) < 256 by omega)]
      have hi6 : i = 256 := by omega
      subst hi6
      have hl := rowsTo_len 256
      rw [loadN ag_54 sz_54 hb (by rw [hl]; decide)]
      simp -dsimp -implicitDefEqProofs only [↓RWn, ↓RWc, ↓RWg', gsome, ↓PWn, ↓PWs, someP_s, someP_n, evA_tmp, evA_int, evA_str, evA_bool, evA_nilp, evA_nils, evA_nilf, evA_nili, evA_func, evL_n, evL_c, evP_n, evP_c, ↓CW_eq, ↓CB_bool, ↓GW_t, ↓GW_f, ↓OW_move, ↓OW_assign, ↓OW_pick, ↓OW_nilCheck, ↓OW_bin, ↓OW_un, ↓OW_makeFunc, ↓OW_fieldAddr, ↓OW_field, ↓OW_indexAddr, ↓OW_index, ↓OW_extract, ↓OW_build, ↓OW_len, ↓OW_min, ↓OW_max, ↓OW_load, ↓OW_store, ↓OW_alloc, ↓OW_box, ↓OW_convert, ↓OW_slice, ↓OW_buildSlice, ↓OW_makeSlice, ↓OW_call, ↓OW_append, b_add, b_sub, b_mul, b_quo, b_rem, b_and32, b_or32, b_xor32, b_and8, b_or8, b_xor8, b_shr32l, b_shr64l, ofInt32, b_eql, b_neq, b_lss, b_leq, b_gtr, b_geq, s_add, s_eql, s_neq, bb_eql, bb_neq, un_not, un_neg, un_xor32, isConstA, conv_int, conv_int2, lenA, ↓AW_skip, ↓AW_ret, ↓AW_exit, ↓AW_reg, ↓AW_cond, ↓AW_block, ↓tQn, ↓tQe, ↓tQr, ↓bQn, ↓bQe, ↓bQr, ↓rQn, ↓rQr, res_n, res_t, res_c, one1, one0, one2, fget_set, fget_cons0, fget_consS, Nat.reduceEqDiff, Nat.reduceLT, Nat.reduceAdd, Int.reduceNeg, Int.reduceLT, Int.reduceLE, Int.reduceToNat, Int.reduceEq, ↓reduceIte, Int.toNat_natCast, Nat.mul_one, Nat.zero_add, Nat.add_zero, and_self, true_and, and_true, ite_true, ite_false, decide_eq_true_eq, Bool.false_eq_true, List.toList_toArray, List.getElem?_toArray, List.getElem?_cons_zero, List.getElem?_cons_succ, Option.toList, List.nil_append, List.append_nil, List.cons_append, ↓AW_draw, ↓RWDn, ↓RWDc, ↓RWDg', ↓DQ_move, ↓DQ_assign, ↓DQ_pick, ↓DQ_nilCheck, ↓DQ_bin, ↓DQ_un, ↓DQ_makeFunc, ↓DQ_makeIface, ↓DQ_fieldAddr, ↓DQ_field, ↓DQ_indexAddr, ↓DQ_index, ↓DQ_extract, ↓DQ_build, ↓DQ_len, ↓DQ_min, ↓DQ_max, ↓DQ_load, ↓DQ_convert, ↓DQ_slice, ↓DQ_alloc, ↓DQ_box, ↓DQ_buildSlice, ↓DQ_makeSlice, ↓DQ_range, List.drop_zero, h1]
      rw [List.take_of_length_le (by rw [hl]; decide), storeN (by rw [hl]; exact sz_54) ?_ hb rfl (by rw [hl]; decide)]
      · simp -dsimp -implicitDefEqProofs only [↓RWn, ↓RWc, ↓RWg', gsome, ↓PWn, ↓PWs, someP_s, someP_n, evA_tmp, evA_int, evA_str, evA_bool, evA_nilp, evA_nils, evA_nilf, evA_nili, evA_func, evL_n, evL_c, evP_n, evP_c, ↓CW_eq, ↓CB_bool, ↓GW_t, ↓GW_f, ↓OW_move, ↓OW_assign, ↓OW_pick, ↓OW_nilCheck, ↓OW_bin, ↓OW_un, ↓OW_makeFunc, ↓OW_fieldAddr, ↓OW_field, ↓OW_indexAddr, ↓OW_index, ↓OW_extract, ↓OW_build, ↓OW_len, ↓OW_min, ↓OW_max, ↓OW_load, ↓OW_store, ↓OW_alloc, ↓OW_box, ↓OW_convert, ↓OW_slice, ↓OW_buildSlice, ↓OW_makeSlice, ↓OW_call, ↓OW_append, b_add, b_sub, b_mul, b_quo, b_rem, b_and32, b_or32, b_xor32, b_and8, b_or8, b_xor8, b_shr32l, b_shr64l, ofInt32, b_eql, b_neq, b_lss, b_leq, b_gtr, b_geq, s_add, s_eql, s_neq, bb_eql, bb_neq, un_not, un_neg, un_xor32, isConstA, conv_int, conv_int2, lenA, ↓AW_skip, ↓AW_ret, ↓AW_exit, ↓AW_reg, ↓AW_cond, ↓AW_block, ↓tQn, ↓tQe, ↓tQr, ↓bQn, ↓bQe, ↓bQr, ↓rQn, ↓rQr, res_n, res_t, res_c, one1, one0, one2, fget_set, fget_cons0, fget_consS, Nat.reduceEqDiff, Nat.reduceLT, Nat.reduceAdd, Int.reduceNeg, Int.reduceLT, Int.reduceLE, Int.reduceToNat, Int.reduceEq, ↓reduceIte, Int.toNat_natCast, Nat.mul_one, Nat.zero_add, Nat.add_zero, and_self, true_and, and_true, ite_true, ite_false, decide_eq_true_eq, Bool.false_eq_true, List.toList_toArray, List.getElem?_toArray, List.getElem?_cons_zero, List.getElem?_cons_succ, Option.toList, List.nil_append, List.append_nil, List.cons_append, ↓AW_draw, ↓RWDn, ↓RWDc, ↓RWDg', ↓DQ_move, ↓DQ_assign, ↓DQ_pick, ↓DQ_nilCheck, ↓DQ_bin, ↓DQ_un, ↓DQ_makeFunc, ↓DQ_makeIface, ↓DQ_fieldAddr, ↓DQ_field, ↓DQ_indexAddr, ↓DQ_index, ↓DQ_extract, ↓DQ_build, ↓DQ_len, ↓DQ_min, ↓DQ_max, ↓DQ_load, ↓DQ_convert, ↓DQ_slice, ↓DQ_alloc, ↓DQ_box, ↓DQ_buildSlice, ↓DQ_makeSlice, ↓DQ_range, h1]
        rw [putCells_all _ _ rfl, loadN ag_54 sz_54 (blkA_set hb) (by rw [hl]; decide)]
        simp -dsimp -implicitDefEqProofs only [↓RWn, ↓RWc, ↓RWg', gsome, ↓PWn, ↓PWs, someP_s, someP_n, evA_tmp, evA_int, evA_str, evA_bool, evA_nilp, evA_nils, evA_nilf, evA_nili, evA_func, evL_n, evL_c, evP_n, evP_c, ↓CW_eq, ↓CB_bool, ↓GW_t, ↓GW_f, ↓OW_move, ↓OW_assign, ↓OW_pick, ↓OW_nilCheck, ↓OW_bin, ↓OW_un, ↓OW_makeFunc, ↓OW_fieldAddr, ↓OW_field, ↓OW_indexAddr, ↓OW_index, ↓OW_extract, ↓OW_build, ↓OW_len, ↓OW_min, ↓OW_max, ↓OW_load, ↓OW_store, ↓OW_alloc, ↓OW_box, ↓OW_convert, ↓OW_slice, ↓OW_buildSlice, ↓OW_makeSlice, ↓OW_call, ↓OW_append, b_add, b_sub, b_mul, b_quo, b_rem, b_and32, b_or32, b_xor32, b_and8, b_or8, b_xor8, b_shr32l, b_shr64l, ofInt32, b_eql, b_neq, b_lss, b_leq, b_gtr, b_geq, s_add, s_eql, s_neq, bb_eql, bb_neq, un_not, un_neg, un_xor32, isConstA, conv_int, conv_int2, lenA, ↓AW_skip, ↓AW_ret, ↓AW_exit, ↓AW_reg, ↓AW_cond, ↓AW_block, ↓tQn, ↓tQe, ↓tQr, ↓bQn, ↓bQe, ↓bQr, ↓rQn, ↓rQr, res_n, res_t, res_c, one1, one0, one2, fget_set, fget_cons0, fget_consS, Nat.reduceEqDiff, Nat.reduceLT, Nat.reduceAdd, Int.reduceNeg, Int.reduceLT, Int.reduceLE, Int.reduceToNat, Int.reduceEq, ↓reduceIte, Int.toNat_natCast, Nat.mul_one, Nat.zero_add, Nat.add_zero, and_self, true_and, and_true, ite_true, ite_false, decide_eq_true_eq, Bool.false_eq_true, List.toList_toArray, List.getElem?_toArray, List.getElem?_cons_zero, List.getElem?_cons_succ, Option.toList, List.nil_append, List.append_nil, List.cons_append, ↓AW_draw, ↓RWDn, ↓RWDc, ↓RWDg', ↓DQ_move, ↓DQ_assign, ↓DQ_pick, ↓DQ_nilCheck, ↓DQ_bin, ↓DQ_un, ↓DQ_makeFunc, ↓DQ_makeIface, ↓DQ_fieldAddr, ↓DQ_field, ↓DQ_indexAddr, ↓DQ_index, ↓DQ_extract, ↓DQ_build, ↓DQ_len, ↓DQ_min, ↓DQ_max, ↓DQ_load, ↓DQ_convert, ↓DQ_slice, ↓DQ_alloc, ↓DQ_box, ↓DQ_buildSlice, ↓DQ_makeSlice, ↓DQ_range, List.drop_zero]
        rw [List.take_of_length_le (by rw [hl]; decide)]
        exact ⟨rfl, he.set (Nat.le_refl _) _⟩
      · refine List.all_eq_true.2 fun v hv => ?_
        unfold rowsTo at hv
        obtain ⟨j, _, rfl⟩ := List.mem_map.1 hv
        split <;> rfl
  · simp -dsimp -implicitDefEqProofs only [↓RWn, ↓RWc, ↓RWg', gsome, ↓PWn, ↓PWs, someP_s, someP_n, evA_tmp, evA_int, evA_str, evA_bool, evA_nilp, evA_nils, evA_nilf, evA_nili, evA_func, evL_n, evL_c, evP_n, evP_c, ↓CW_eq, ↓CB_bool, ↓GW_t, ↓GW_f, ↓OW_move, ↓OW_assign, ↓OW_pick, ↓OW_nilCheck, ↓OW_bin, ↓OW_un, ↓OW_makeFunc, ↓OW_fieldAddr, ↓OW_field, ↓OW_indexAddr, ↓OW_index, ↓OW_extract, ↓OW_build, ↓OW_len, ↓OW_min, ↓OW_max, ↓OW_load, ↓OW_store, ↓OW_alloc, ↓OW_box, ↓OW_convert, ↓OW_slice, ↓OW_buildSlice, ↓OW_makeSlice, ↓OW_call, ↓OW_append, b_add, b_sub, b_mul, b_quo, b_rem, b_and32, b_or32, b_xor32, b_and8, b_or8, b_xor8, b_shr32l, b_shr64l, ofInt32, b_eql, b_neq, b_lss, b_leq, b_gtr, b_geq, s_add, s_eql, s_neq, bb_eql, bb_neq, un_not, un_neg, un_xor32, isConstA, conv_int, conv_int2, lenA, ↓AW_skip, ↓AW_ret, ↓AW_exit, ↓AW_reg, ↓AW_cond, ↓AW_block, ↓tQn, ↓tQe, ↓tQr, ↓bQn, ↓bQe, ↓bQr, ↓rQn, ↓rQr, res_n, res_t, res_c, one1, one0, one2, fget_set, fget_cons0, fget_consS, Nat.reduceEqDiff, Nat.reduceLT, Nat.reduceAdd, Int.reduceNeg, Int.reduceLT, Int.reduceLE, Int.reduceToNat, Int.reduceEq, ↓reduceIte, Int.toNat_natCast, Nat.mul_one, Nat.zero_add, Nat.add_zero, and_self, true_and, and_true, ite_true, ite_false, decide_eq_true_eq, Bool.false_eq_true, List.toList_toArray, List.getElem?_toArray, List.getElem?_cons_zero, List.getElem?_cons_succ, Option.toList, List.nil_append, List.append_nil, List.cons_append, ↓AW_draw, ↓RWDn, ↓RWDc, ↓RWDg', ↓DQ_move, ↓DQ_assign, ↓DQ_pick, ↓DQ_nilCheck, ↓DQ_bin, ↓DQ_un, ↓DQ_makeFunc, ↓DQ_makeIface, ↓DQ_fieldAddr, ↓DQ_field, ↓DQ_indexAddr, ↓DQ_index, ↓DQ_extract, ↓DQ_build, ↓DQ_len, ↓DQ_min, ↓DQ_max, ↓DQ_load, ↓DQ_convert, ↓DQ_slice, ↓DQ_alloc, ↓DQ_box, ↓DQ_buildSlice, ↓DQ_makeSlice, ↓DQ_range]; rfl
  · simp -dsimp -implicitDefEqProofs only [↓RWn, ↓RWc, ↓RWg', gsome, ↓PWn, ↓PWs, someP_s, someP_n, evA_tmp, evA_int, evA_str, evA_bool, evA_nilp, evA_nils, evA_nilf, evA_nili, evA_func, evL_n, evL_c, evP_n, evP_c, ↓CW_eq, ↓CB_bool, ↓GW_t, ↓GW_f, ↓OW_move, ↓OW_assign, ↓OW_pick, ↓OW_nilCheck, ↓OW_bin, ↓OW_un, ↓OW_makeFunc, ↓OW_fieldAddr, ↓OW_field, ↓OW_indexAddr, ↓OW_index, ↓OW_extract, ↓OW_build, ↓OW_len, ↓OW_min, ↓OW_max, ↓OW_load, ↓OW_store, ↓OW_alloc, ↓OW_box, ↓OW_convert, ↓OW_slice, ↓OW_buildSlice, ↓OW_makeSlice, ↓OW_call, ↓OW_append, b_add, b_sub, b_mul, b_quo, b_rem, b_and32, b_or32, b_xor32, b_and8, b_or8, b_xor8, b_shr32l, b_shr64l, ofInt32, b_eql, b_neq, b_lss, b_leq, b_gtr, b_geq, s_add, s_eql, s_neq, bb_eql, bb_neq, un_not, un_neg, un_xor32, isConstA, conv_int, conv_int2, lenA, ↓AW_skip, ↓AW_ret, ↓AW_exit, ↓AW_reg, ↓AW_cond, ↓AW_block, ↓tQn, ↓tQe, ↓tQr, ↓bQn, ↓bQe, ↓bQr, ↓rQn, ↓rQr, res_n, res_t, res_c, one1, one0, one2, fget_set, fget_cons0, fget_consS, Nat.reduceEqDiff, Nat.reduceLT, Nat.reduceAdd, Int.reduceNeg, Int.reduceLT, Int.reduceLE, Int.reduceToNat, Int.reduceEq, ↓reduceIte, Int.toNat_natCast, Nat.mul_one, Nat.zero_add, Nat.add_zero, and_self, true_and, and_true, ite_true, ite_false, decide_eq_true_eq, Bool.false_eq_true, List.toList_toArray, List.getElem?_toArray, List.getElem?_cons_zero, List.getElem?_cons_succ, Option.toList, List.nil_append, List.append_nil, List.cons_append, ↓AW_draw, ↓RWDn, ↓RWDc, ↓RWDg', ↓DQ_move, ↓DQ_assign, ↓DQ_pick, ↓DQ_nilCheck, ↓DQ_bin, ↓DQ_un, ↓DQ_makeFunc, ↓DQ_makeIface, ↓DQ_fieldAddr, ↓DQ_field, ↓DQ_indexAddr, ↓DQ_index, ↓DQ_extract, ↓DQ_build, ↓DQ_len, ↓DQ_min, ↓DQ_max, ↓DQ_load, ↓DQ_convert, ↓DQ_slice, ↓DQ_alloc, ↓DQ_box, ↓DQ_buildSlice, ↓DQ_makeSlice, ↓DQ_range]
  · rw [blkA_new, rowsTo_0]
def crcStep (c : BitVec 32) (b : UInt8) : BitVec 32 := (c >>> 8) ^^^ row ((c.setWidth 8 ^^^ b.toBitVec).toNat)
def crcFold (c : BitVec 32) (l : List UInt8) : BitVec 32 := l.foldl crcStep c
def crcSum (l : List UInt8) : BitVec 32 := ~~~ crcFold (BitVec.allOnes 32) l
theorem rowsTo_one : (rowsTo 256).all oneCellA = true := by
  refine List.all_eq_true.2 fun v hv => ?_
  unfold rowsTo at hv
  obtain ⟨j, _, rfl⟩ := List.mem_map.1 hv
  split <;> rfl
attribute [irreducible] rowsTo row
theorem crcFold_take (l : List UInt8) (k : Nat) (b : UInt8) (hb : l[k]? = some b) (c : BitVec 32) : crcFold c (l.take (k + 1)) = crcStep (crcFold c (l.take k)) b := by
  have hk : k < l.length := (List.getElem?_eq_some_iff.1 hb).1
  rw [List.take_add_one, hb]
  simp [crcFold, List.foldl_append]
theorem ofInt8 (x : BitVec 32) : BitVec.ofInt 8 ((x.toNat : Int) % 256) = x.setWidth 8 := by
  apply BitVec.eq_of_toNat_eq
  rw [BitVec.toNat_ofInt, BitVec.toNat_setWidth]
  have h2 : ((2 ^ 8 : Nat) : Int) = 256 := by decide
  rw [h2]
  have h3 : ((x.toNat : Int) % 256 % 256) = ((x.toNat % 2 ^ 8 : Nat) : Int) := by
    have : (2:Nat) ^ 8 = 256 := by decide
    rw [this]; omega
  rw [h3, Int.toNat_natCast]
theorem ofInt8b (b : UInt8) : BitVec.ofInt 8 (b.toNat : Int) = b.toBitVec := by
  rw [BitVec.ofInt_natCast]
  exact BitVec.ofNat_toNat 8 b.toBitVec |>.trans (by simp)
theorem sum_fw (s : ByteArray) (hs : s.size < 2 ^ 40) (h0 : AHeap) : Quiet cx 21 [.string s] h0 (.int .u32 (crcSum s.data.toList).toNat) := by
  refine FW_f Try.func21 rfl (by decide +kernel) ?_
  simp -dsimp -implicitDefEqProofs only [↓RWn, ↓RWc, ↓RWg', gsome, ↓PWn, ↓PWs, someP_s, someP_n, evA_tmp, evA_int, evA_str, evA_bool, evA_nilp, evA_nils, evA_nilf, evA_nili, evA_func, evL_n, evL_c, evP_n, evP_c, ↓CW_eq, ↓CB_bool, ↓GW_t, ↓GW_f, ↓OW_move, ↓OW_assign, ↓OW_pick, ↓OW_nilCheck, ↓OW_bin, ↓OW_un, ↓OW_makeFunc, ↓OW_fieldAddr, ↓OW_field, ↓OW_indexAddr, ↓OW_index, ↓OW_extract, ↓OW_build, ↓OW_len, ↓OW_min, ↓OW_max, ↓OW_load, ↓OW_store, ↓OW_alloc, ↓OW_box, ↓OW_convert, ↓OW_slice, ↓OW_buildSlice, ↓OW_makeSlice, ↓OW_call, ↓OW_append, b_add, b_sub, b_mul, b_quo, b_rem, b_and32, b_or32, b_xor32, b_and8, b_or8, b_xor8, b_shr32l, b_shr64l, ofInt32, b_eql, b_neq, b_lss, b_leq, b_gtr, b_geq, s_add, s_eql, s_neq, bb_eql, bb_neq, un_not, un_neg, un_xor32, isConstA, conv_int, conv_int2, lenA, ↓AW_skip, ↓AW_ret, ↓AW_exit, ↓AW_reg, ↓AW_cond, ↓AW_block, ↓tQn, ↓tQe, ↓tQr, ↓bQn, ↓bQe, ↓bQr, ↓rQn, ↓rQr, res_n, res_t, res_c, one1, one0, one2, fget_set, fget_cons0, fget_consS, Nat.reduceEqDiff, Nat.reduceLT, Nat.reduceAdd, Int.reduceNeg, Int.reduceLT, Int.reduceLE, Int.reduceToNat, Int.reduceEq, ↓reduceIte, Int.toNat_natCast, Nat.mul_one, Nat.zero_add, Nat.add_zero, and_self, true_and, and_true, ite_true, ite_false, decide_eq_true_eq, Bool.false_eq_true, List.toList_toArray, List.getElem?_toArray, List.getElem?_cons_zero, List.getElem?_cons_succ, Option.toList, List.nil_append, List.append_nil, List.cons_append, ↓AW_draw, ↓RWDn, ↓RWDc, ↓RWDg', ↓DQ_move, ↓DQ_assign, ↓DQ_pick, ↓DQ_nilCheck, ↓DQ_bin, ↓DQ_un, ↓DQ_makeFunc, ↓DQ_makeIface, ↓DQ_fieldAddr, ↓DQ_field, ↓DQ_indexAddr, ↓DQ_index, ↓DQ_extract, ↓DQ_build, ↓DQ_len, ↓DQ_min, ↓DQ_max, ↓DQ_load, ↓DQ_convert, ↓DQ_slice, ↓DQ_alloc, ↓DQ_box, ↓DQ_buildSlice, ↓DQ_makeSlice, ↓DQ_range, ↓AW_seq, tys, ↓AW_loop]
  refine (table_fw h0).use fun h1 he => ?_
  simp -dsimp -implicitDefEqProofs only [↓RWn, ↓RWc, ↓RWg', gsome, ↓PWn, ↓PWs, someP_s, someP_n, evA_tmp, evA_int, evA_str, evA_bool, evA_nilp, evA_nils, evA_nilf, evA_nili, evA_func, evL_n, evL_c, evP_n, evP_c, ↓CW_eq, ↓CB_bool, ↓GW_t, ↓GW_f, ↓OW_move, ↓OW_assign, ↓OW_pick, ↓OW_nilCheck, ↓OW_bin, ↓OW_un, ↓OW_makeFunc, ↓OW_fieldAddr, ↓OW_field, ↓OW_indexAddr, ↓OW_index, ↓OW_extract, ↓OW_build, ↓OW_len, ↓OW_min, ↓OW_max, ↓OW_load, ↓OW_store, ↓OW_alloc, ↓OW_box, ↓OW_convert, ↓OW_slice, ↓OW_buildSlice, ↓OW_makeSlice, ↓OW_call, ↓OW_append, b_add, b_sub, b_mul, b_quo, b_rem, b_and32, b_or32, b_xor32, b_and8, b_or8, b_xor8, b_shr32l, b_shr64l, ofInt32, b_eql, b_neq, b_lss, b_leq, b_gtr, b_geq, s_add, s_eql, s_neq, bb_eql, bb_neq, un_not, un_neg, un_xor32, isConstA, conv_int, conv_int2, lenA, ↓AW_skip, ↓AW_ret, ↓AW_exit, ↓AW_reg, ↓AW_cond, ↓AW_block, ↓tQn, ↓tQe, ↓tQr, ↓bQn, ↓bQe, ↓bQr, ↓rQn, ↓rQr, res_n, res_t, res_c, one1, one0, one2, fget_set, fget_cons0, fget_consS, Nat.reduceEqDiff, Nat.reduceLT, Nat.reduceAdd, Int.reduceNeg, Int.reduceLT, Int.reduceLE, Int.reduceToNat, Int.reduceEq, ↓reduceIte, Int.toNat_natCast, Nat.mul_one, Nat.zero_add, Nat.add_zero, and_self, true_and, and_true, ite_true, ite_false, decide_eq_true_eq, Bool.false_eq_true, List.toList_toArray, List.getElem?_toArray, List.getElem?_cons_zero, List.getElem?_cons_succ, Option.toList, List.nil_append, List.append_nil, List.cons_append, ↓AW_draw, ↓RWDn, ↓RWDc, ↓RWDg', ↓DQ_move, ↓DQ_assign, ↓DQ_pick, ↓DQ_nilCheck, ↓DQ_bin, ↓DQ_un, ↓DQ_makeFunc, ↓DQ_makeIface, ↓DQ_fieldAddr, ↓DQ_field, ↓DQ_indexAddr, ↓DQ_index, ↓DQ_extract, ↓DQ_build, ↓DQ_len, ↓DQ_min, ↓DQ_max, ↓DQ_load, ↓DQ_convert, ↓DQ_slice, ↓DQ_alloc, ↓DQ_box, ↓DQ_buildSlice, ↓DQ_makeSlice, ↓DQ_range, ↓AW_seq, tys, ↓AW_loop]
  have hl := rowsTo_len 256
  rw [storeN (by rw [hl]; exact sz_54) rowsTo_one (blkA_new h1 _) rfl (by simp only [List.length_replicate]; rw [hl]; decide)]
  rw [putCells_all _ _ (by rw [hl]; simp only [List.length_replicate])]
  simp -dsimp -implicitDefEqProofs only [↓RWn, ↓RWc, ↓RWg', gsome, ↓PWn, ↓PWs, someP_s, someP_n, evA_tmp, evA_int, evA_str, evA_bool, evA_nilp, evA_nils, evA_nilf, evA_nili, evA_func, evL_n, evL_c, evP_n, evP_c, ↓CW_eq, ↓CB_bool, ↓GW_t, ↓GW_f, ↓OW_move, ↓OW_assign, ↓OW_pick, ↓OW_nilCheck, ↓OW_bin, ↓OW_un, ↓OW_makeFunc, ↓OW_fieldAddr, ↓OW_field, ↓OW_indexAddr, ↓OW_index, ↓OW_extract, ↓OW_build, ↓OW_len, ↓OW_min, ↓OW_max, ↓OW_load, ↓OW_store, ↓OW_alloc, ↓OW_box, ↓OW_convert, ↓OW_slice, ↓OW_buildSlice, ↓OW_makeSlice, ↓OW_call, ↓OW_append, b_add, b_sub, b_mul, b_quo, b_rem, b_and32, b_or32, b_xor32, b_and8, b_or8, b_xor8, b_shr32l, b_shr64l, ofInt32, b_eql, b_neq, b_lss, b_leq, b_gtr, b_geq, s_add, s_eql, s_neq, bb_eql, bb_neq, un_not, un_neg, un_xor32, isConstA, conv_int, conv_int2, lenA, ↓AW_skip, ↓AW_ret, ↓AW_exit, ↓AW_reg, ↓AW_cond, ↓AW_block, ↓tQn, ↓tQe, ↓tQr, ↓bQn, ↓bQe, ↓bQr, ↓rQn, ↓rQr, res_n, res_t, res_c, one1, one0, one2, fget_set, fget_cons0, fget_consS, Nat.reduceEqDiff, Nat.reduceLT, Nat.reduceAdd, Int.reduceNeg, Int.reduceLT, Int.reduceLE, Int.reduceToNat, Int.reduceEq, ↓reduceIte, Int.toNat_natCast, Nat.mul_one, Nat.zero_add, Nat.add_zero, and_self, true_and, and_true, ite_true, ite_false, decide_eq_true_eq, Bool.false_eq_true, List.toList_toArray, List.getElem?_toArray, List.getElem?_cons_zero, List.getElem?_cons_succ, Option.toList, List.nil_append, List.append_nil, List.cons_append, ↓AW_draw, ↓RWDn, ↓RWDc, ↓RWDg', ↓DQ_move, ↓DQ_assign, ↓DQ_pick, ↓DQ_nilCheck, ↓DQ_bin, ↓DQ_un, ↓DQ_makeFunc, ↓DQ_makeIface, ↓DQ_fieldAddr, ↓DQ_field, ↓DQ_indexAddr, ↓DQ_index, ↓DQ_extract, ↓DQ_build, ↓DQ_len, ↓DQ_min, ↓DQ_max, ↓DQ_load, ↓DQ_convert, ↓DQ_slice, ↓DQ_alloc, ↓DQ_box, ↓DQ_buildSlice, ↓DQ_makeSlice, ↓DQ_range, ↓AW_seq, tys, ↓AW_loop]
  generalize hh : (h1 ++ [some (AObj.cells { cells := List.replicate 256 (Value.int IntKind.u32 0), esz := 1, ro := false })]).set h1.length (some (AObj.cells { cells := rowsTo 256, esz := 1, ro := false })) = h2
  have hb : blkA h2 h1.length = some ⟨rowsTo 256, 1, false⟩ := by rw [← hh]; exact blkA_set (blkA_new h1 _)
  have he2 : Ext h0 h2 := by rw [← hh]; exact (he.app' _).set he.len _
  have hsz : s.data.toList.length = s.size := rfl
  refine LW_rule (fun m fr h => ∃ k : Nat, k ≤ s.size ∧ m = s.size - k ∧ fget fr 9 = .int .i64 k ∧ fget fr 8 = .int .i64 s.size ∧ fget fr 3 = .int .u32 (crcFold (BitVec.allOnes 32) (s.data.toList.take k)).toNat ∧ fget fr 0 = .string s ∧ fget fr 4 = .pointer (some ⟨h1.length, 0, none⟩) ∧ h = h2) ?_ s.size _ _ ⟨0, by omega, rfl, ?_⟩
  · intro m fr h ⟨k, hk, hm, g9, g8, g3, g0, g4, hh⟩
    subst hh
    simp -dsimp -implicitDefEqProofs only [↓RWn, ↓RWc, ↓RWg', gsome, ↓PWn, ↓PWs, someP_s, someP_n, evA_tmp, evA_int, evA_str, evA_bool, evA_nilp, evA_nils, evA_nilf, evA_nili, evA_func, evL_n, evL_c, evP_n, evP_c, ↓CW_eq, ↓CB_bool, ↓GW_t, ↓GW_f, ↓OW_move, ↓OW_assign, ↓OW_pick, ↓OW_nilCheck, ↓OW_bin, ↓OW_un, ↓OW_makeFunc, ↓OW_fieldAddr, ↓OW_field, ↓OW_indexAddr, ↓OW_index, ↓OW_extract, ↓OW_build, ↓OW_len, ↓OW_min, ↓OW_max, ↓OW_load, ↓OW_store, ↓OW_alloc, ↓OW_box, ↓OW_convert, ↓OW_slice, ↓OW_buildSlice, ↓OW_makeSlice, ↓OW_call, ↓OW_append, b_add, b_sub, b_mul, b_quo, b_rem, b_and32, b_or32, b_xor32, b_and8, b_or8, b_xor8, b_shr32l, b_shr64l, ofInt32, b_eql, b_neq, b_lss, b_leq, b_gtr, b_geq, s_add, s_eql, s_neq, bb_eql, bb_neq, un_not, un_neg, un_xor32, isConstA, conv_int, conv_int2, lenA, ↓AW_skip, ↓AW_ret, ↓AW_exit, ↓AW_reg, ↓AW_cond, ↓AW_block, ↓tQn, ↓tQe, ↓tQr, ↓bQn, ↓bQe, ↓bQr, ↓rQn, ↓rQr, res_n, res_t, res_c, one1, one0, one2, fget_set, fget_cons0, fget_consS, Nat.reduceEqDiff, Nat.reduceLT, Nat.reduceAdd, Int.reduceNeg, Int.reduceLT, Int.reduceLE, Int.reduceToNat, Int.reduceEq, ↓reduceIte, Int.toNat_natCast, Nat.mul_one, Nat.zero_add, Nat.add_zero, and_self, true_and, and_true, ite_true, ite_false, decide_eq_true_eq, Bool.false_eq_true, List.toList_toArray, List.getElem?_toArray, List.getElem?_cons_zero, List.getElem?_cons_succ, Option.toList, List.nil_append, List.append_nil, List.cons_append, ↓AW_draw, ↓RWDn, ↓RWDc, ↓RWDg', ↓DQ_move, ↓DQ_assign, ↓DQ_pick, ↓DQ_nilCheck, ↓DQ_bin, ↓DQ_un, ↓DQ_makeFunc, ↓DQ_makeIface, ↓DQ_fieldAddr, ↓DQ_field, ↓DQ_indexAddr, ↓DQ_index, ↓DQ_extract, ↓DQ_build, ↓DQ_len, ↓DQ_min, ↓DQ_max, ↓DQ_load, ↓DQ_convert, ↓DQ_slice, ↓DQ_alloc, ↓DQ_box, ↓DQ_buildSlice, ↓DQ_makeSlice, ↓DQ_range, ↓AW_seq, tys, g9, g8, g3, g0, g4]
    by_cases hlt : k < s.size
    · rw [if_pos (show (k : Int) < s.size by omega)]
      have hget : s.data.toList[k]? = some (s.data.toList[k]'hlt) := List.getElem?_eq_getElem _
      have hdat : s.data[k]? = some (s.data.toList[k]'hlt) := by rw [← Array.getElem?_toList]; exact hget
      have hx : ((crcFold (BitVec.allOnes 32) (List.take k s.data.toList)).setWidth 8 ^^^ (s.data.toList[k]'hlt).toBitVec).toNat < 256 := BitVec.isLt _
      have hrow := rowsTo_get 256 _ hx
      rw [if_pos hx] at hrow
      rw [idxStr u_9, hdat]
      simp -dsimp -implicitDefEqProofs only [↓RWn, ↓RWc, ↓RWg', gsome, ↓PWn, ↓PWs, someP_s, someP_n, evA_tmp, evA_int, evA_str, evA_bool, evA_nilp, evA_nils, evA_nilf, evA_nili, evA_func, evL_n, evL_c, evP_n, evP_c, ↓CW_eq, ↓CB_bool, ↓GW_t, ↓GW_f, ↓OW_move, ↓OW_assign, ↓OW_pick, ↓OW_nilCheck, ↓OW_bin, ↓OW_un, ↓OW_makeFunc, ↓OW_fieldAddr, ↓OW_field, ↓OW_indexAddr, ↓OW_index, ↓OW_extract, ↓OW_build, ↓OW_len, ↓OW_min, ↓OW_max, ↓OW_load, ↓OW_store, ↓OW_alloc, ↓OW_box, ↓OW_convert, ↓OW_slice, ↓OW_buildSlice, ↓OW_makeSlice, ↓OW_call, ↓OW_append, b_add, b_sub, b_mul, b_quo, b_rem, b_and32, b_or32, b_xor32, b_and8, b_or8, b_xor8, b_shr32l, b_shr64l, ofInt32, b_eql, b_neq, b_lss, b_leq, b_gtr, b_geq, s_add, s_eql, s_neq, bb_eql, bb_neq, un_not, un_neg, un_xor32, isConstA, conv_int, conv_int2, lenA, ↓AW_skip, ↓AW_ret, ↓AW_exit, ↓AW_reg, ↓AW_cond, ↓AW_block, ↓tQn, ↓tQe, ↓tQr, ↓bQn, ↓bQe, ↓bQr, ↓rQn, ↓rQr, res_n, res_t, res_c, one1, one0, one2, fget_set, fget_cons0, fget_consS, Nat.reduceEqDiff, Nat.reduceLT, Nat.reduceAdd, Int.reduceNeg, Int.reduceLT, Int.reduceLE, Int.reduceToNat, Int.reduceEq, ↓reduceIte, Int.toNat_natCast, Nat.mul_one, Nat.zero_add, Nat.add_zero, and_self, true_and, and_true, ite_true, ite_false, decide_eq_true_eq, Bool.false_eq_true, List.toList_toArray, List.getElem?_toArray, List.getElem?_cons_zero, List.getElem?_cons_succ, Option.toList, List.nil_append, List.append_nil, List.cons_append, ↓AW_draw, ↓RWDn, ↓RWDc, ↓RWDg', ↓DQ_move, ↓DQ_assign, ↓DQ_pick, ↓DQ_nilCheck, ↓DQ_bin, ↓DQ_un, ↓DQ_makeFunc, ↓DQ_makeIface, ↓DQ_fieldAddr, ↓DQ_field, ↓DQ_indexAddr, ↓DQ_index, ↓DQ_extract, ↓DQ_build, ↓DQ_len, ↓DQ_min, ↓DQ_max, ↓DQ_load, ↓DQ_convert, ↓DQ_slice, ↓DQ_alloc, ↓DQ_box, ↓DQ_buildSlice, ↓DQ_makeSlice, ↓DQ_range, ↓AW_seq, tys, Option.map_some, wrapu8, ofInt8, ofInt8b, g3, g4]
      rw [idxArr u_54 sz_50 hx]
      simp -dsimp -implicitDefEqProofs only [↓RWn, ↓RWc, ↓RWg', gsome, ↓PWn, ↓PWs, someP_s, someP_n, evA_tmp, evA_int, evA_str, evA_bool, evA_nilp, evA_nils, evA_nilf, evA_nili, evA_func, evL_n, evL_c, evP_n, evP_c, ↓CW_eq, ↓CB_bool, ↓GW_t, ↓GW_f, ↓OW_move, ↓OW_assign, ↓OW_pick, ↓OW_nilCheck, ↓OW_bin, ↓OW_un, ↓OW_makeFunc, ↓OW_fieldAddr, ↓OW_field, ↓OW_indexAddr, ↓OW_index, ↓OW_extract, ↓OW_build, ↓OW_len, ↓OW_min, ↓OW_max, ↓OW_load, ↓OW_store, ↓OW_alloc, ↓OW_box, ↓OW_convert, ↓OW_slice, ↓OW_buildSlice, ↓OW_makeSlice, ↓OW_call, ↓OW_append, b_add, b_sub, b_mul, b_quo, b_rem, b_and32, b_or32, b_xor32, b_and8, b_or8, b_xor8, b_shr32l, b_shr64l, ofInt32, b_eql, b_neq, b_lss, b_leq, b_gtr, b_geq, s_add, s_eql, s_neq, bb_eql, bb_neq, un_not, un_neg, un_xor32, isConstA, conv_int, conv_int2, lenA, ↓AW_skip, ↓AW_ret, ↓AW_exit, ↓AW_reg, ↓AW_cond, ↓AW_block, ↓tQn, ↓tQe, ↓tQr, ↓bQn, ↓bQe, ↓bQr, ↓rQn, ↓rQr, res_n, res_t, res_c, one1, one0, one2, fget_set, fget_cons0, fget_consS, Nat.reduceEqDiff, Nat.reduceLT, Nat.reduceAdd, Int.reduceNeg, Int.reduceLT, Int.reduceLE, Int.reduceToNat, Int.reduceEq, ↓reduceIte, Int.toNat_natCast, Nat.mul_one, Nat.zero_add, Nat.add_zero, and_self, true_and, and_true, ite_true, ite_false, decide_eq_true_eq, Bool.false_eq_true, List.toList_toArray, List.getElem?_toArray, List.getElem?_cons_zero, List.getElem?_cons_succ, Option.toList, List.nil_append, List.append_nil, List.cons_append, ↓AW_draw, ↓RWDn, ↓RWDc, ↓RWDg', ↓DQ_move, ↓DQ_assign, ↓DQ_pick, ↓DQ_nilCheck, ↓DQ_bin, ↓DQ_un, ↓DQ_makeFunc, ↓DQ_makeIface, ↓DQ_fieldAddr, ↓DQ_field, ↓DQ_indexAddr, ↓DQ_index, ↓DQ_extract, ↓DQ_build, ↓DQ_len, ↓DQ_min, ↓DQ_max, ↓DQ_load, ↓DQ_convert, ↓DQ_slice, ↓DQ_alloc, ↓DQ_box, ↓DQ_buildSlice, ↓DQ_makeSlice, ↓DQ_range]
      rw [load1 ag_50 sz_50 hb hrow]
      simp -dsimp -implicitDefEqProofs only [↓RWn, ↓RWc, ↓RWg', gsome, ↓PWn, ↓PWs, someP_s, someP_n, evA_tmp, evA_int, evA_str, evA_bool, evA_nilp, evA_nils, evA_nilf, evA_nili, evA_func, evL_n, evL_c, evP_n, evP_c, ↓CW_eq, ↓CB_bool, ↓GW_t, ↓GW_f, ↓OW_move, ↓OW_assign, ↓OW_pick, ↓OW_nilCheck, ↓OW_bin, ↓OW_un, ↓OW_makeFunc, ↓OW_fieldAddr, ↓OW_field, ↓OW_indexAddr, ↓OW_index, ↓OW_extract, ↓OW_build, ↓OW_len, ↓OW_min, ↓OW_max, ↓OW_load, ↓OW_store, ↓OW_alloc, ↓OW_box, ↓OW_convert, ↓OW_slice, ↓OW_buildSlice, ↓OW_makeSlice, ↓OW_call, ↓OW_append, b_add, b_sub, b_mul, b_quo, b_rem, b_and32, b_or32, b_xor32, b_and8, b_or8, b_xor8, b_shr32l, b_shr64l, ofInt32, b_eql, b_neq, b_lss, b_leq, b_gtr, b_geq, s_add, s_eql, s_neq, bb_eql, bb_neq, un_not, un_neg, un_xor32, isConstA, conv_int, conv_int2, lenA, ↓AW_skip, ↓AW_ret, ↓AW_exit, ↓AW_reg, ↓AW_cond, ↓AW_block, ↓tQn, ↓tQe, ↓tQr, ↓bQn, ↓bQe, ↓bQr, ↓rQn, ↓rQr, res_n, res_t, res_c, one1, one0, one2, fget_set, fget_cons0, fget_consS, Nat.reduceEqDiff, Nat.reduceLT, Nat.reduceAdd, Int.reduceNeg, Int.reduceLT, Int.reduceLE, Int.reduceToNat, Int.reduceEq, ↓reduceIte, Int.toNat_natCast, Nat.mul_one, Nat.zero_add, Nat.add_zero, and_self, true_and, and_true, ite_true, ite_false, decide_eq_true_eq, Bool.false_eq_true, List.toList_toArray, List.getElem?_toArray, List.getElem?_cons_zero, List.getElem?_cons_succ, Option.toList, List.nil_append, List.append_nil, List.cons_append, ↓AW_draw, ↓RWDn, ↓RWDc, ↓RWDg', ↓DQ_move, ↓DQ_assign, ↓DQ_pick, ↓DQ_nilCheck, ↓DQ_bin, ↓DQ_un, ↓DQ_makeFunc, ↓DQ_makeIface, ↓DQ_fieldAddr, ↓DQ_field, ↓DQ_indexAddr, ↓DQ_index, ↓DQ_extract, ↓DQ_build, ↓DQ_len, ↓DQ_min, ↓DQ_max, ↓DQ_load, ↓DQ_convert, ↓DQ_slice, ↓DQ_alloc, ↓DQ_box, ↓DQ_buildSlice, ↓DQ_makeSlice, ↓DQ_range, ↓AW_seq, tys, g9, g8, g0, g4]
      refine ⟨s.size - (k + 1), by omega, k + 1, by omega, rfl, ?_, ?_⟩
      · rw [wrap64 (by omega) (by omega)]; rfl
      · rw [crcFold_take _ _ _ hget, crcStep]
    · rw [if_neg (show ¬ (k : Int) < s.size by omega)]
      have hk2 : k = s.data.toList.length := by omega
      subst hk2
      rw [List.take_length]
      exact ⟨rfl, he2⟩
  · have h1s : (BitVec.allOnes 32).toNat = 4294967295 := by decide
    simp -dsimp -implicitDefEqProofs only [↓RWn, ↓RWc, ↓RWg', gsome, ↓PWn, ↓PWs, someP_s, someP_n, evA_tmp, evA_int, evA_str, evA_bool, evA_nilp, evA_nils, evA_nilf, evA_nili, evA_func, evL_n, evL_c, evP_n, evP_c, ↓CW_eq, ↓CB_bool, ↓GW_t, ↓GW_f, ↓OW_move, ↓OW_assign, ↓OW_pick, ↓OW_nilCheck, ↓OW_bin, ↓OW_un, ↓OW_makeFunc, ↓OW_fieldAddr, ↓OW_field, ↓OW_indexAddr, ↓OW_index, ↓OW_extract, ↓OW_build, ↓OW_len, ↓OW_min, ↓OW_max, ↓OW_load, ↓OW_store, ↓OW_alloc, ↓OW_box, ↓OW_convert, ↓OW_slice, ↓OW_buildSlice, ↓OW_makeSlice, ↓OW_call, ↓OW_append, b_add, b_sub, b_mul, b_quo, b_rem, b_and32, b_or32, b_xor32, b_and8, b_or8, b_xor8, b_shr32l, b_shr64l, ofInt32, b_eql, b_neq, b_lss, b_leq, b_gtr, b_geq, s_add, s_eql, s_neq, bb_eql, bb_neq, un_not, un_neg, un_xor32, isConstA, conv_int, conv_int2, lenA, ↓AW_skip, ↓AW_ret, ↓AW_exit, ↓AW_reg, ↓AW_cond, ↓AW_block, ↓tQn, ↓tQe, ↓tQr, ↓bQn, ↓bQe, ↓bQr, ↓rQn, ↓rQr, res_n, res_t, res_c, one1, one0, one2, fget_set, fget_cons0, fget_consS, Nat.reduceEqDiff, Nat.reduceLT, Nat.reduceAdd, Int.reduceNeg, Int.reduceLT, Int.reduceLE, Int.reduceToNat, Int.reduceEq, ↓reduceIte, Int.toNat_natCast, Nat.mul_one, Nat.zero_add, Nat.add_zero, and_self, true_and, and_true, ite_true, ite_false, decide_eq_true_eq, Bool.false_eq_true, List.toList_toArray, List.getElem?_toArray, List.getElem?_cons_zero, List.getElem?_cons_succ, Option.toList, List.nil_append, List.append_nil, List.cons_append, ↓AW_draw, ↓RWDn, ↓RWDc, ↓RWDg', ↓DQ_move, ↓DQ_assign, ↓DQ_pick, ↓DQ_nilCheck, ↓DQ_bin, ↓DQ_un, ↓DQ_makeFunc, ↓DQ_makeIface, ↓DQ_fieldAddr, ↓DQ_field, ↓DQ_indexAddr, ↓DQ_index, ↓DQ_extract, ↓DQ_build, ↓DQ_len, ↓DQ_min, ↓DQ_max, ↓DQ_load, ↓DQ_convert, ↓DQ_slice, ↓DQ_alloc, ↓DQ_box, ↓DQ_buildSlice, ↓DQ_makeSlice, ↓DQ_range, and_true, List.take_zero, crcFold, List.foldl_nil, h1s]
    trivial
end Go.Abs
/- PcS: captures in plain Lean: what the code computes. Conditions: none. -/
set_option maxRecDepth 100000
namespace Go.Abs
/-- The lowest k bytes of n, the highest of them first. -/
def be (n : Nat) : Nat → List UInt8
  | 0 => []
  | k + 1 => UInt8.ofNat (n / 256 ^ k) :: be n k
theorem be_len (n k : Nat) : (be n k).length = k := by induction k <;> simp [be, *]
def val (l : List UInt8) : Nat := l.foldl (fun n b => n * 256 + b.toNat) 0
theorem val_append (a b : List UInt8) : val (a ++ b) = val a * 256 ^ b.length + val b := by
  have key : ∀ (b : List UInt8) (n : Nat), b.foldl (fun n b => n * 256 + b.toNat) n = n * 256 ^ b.length + b.foldl (fun n b => n * 256 + b.toNat) 0 := by
    intro b
    induction b with
    | nil => intro n; simp
    | cons x b ih =>
      intro n
      simp only [List.foldl_cons, List.length_cons]
      rw [ih (n * 256 + x.toNat), ih (0 * 256 + x.toNat)]
      rw [Nat.zero_mul, Nat.zero_add, Nat.add_mul, Nat.pow_succ, Nat.mul_assoc, Nat.mul_comm 256, Nat.add_assoc]
  unfold val
  rw [List.foldl_append]
  exact key b _
theorem val_lt (l : List UInt8) : val l < 256 ^ l.length := by
  induction l with
  | nil => simp [val]
  | cons x l ih =>
    have h := val_append [x] l
    simp only [List.cons_append, List.nil_append] at h
    rw [h, List.length_cons, Nat.pow_succ]
    have hx := x.toNat_lt
    have h1 : val [x] = x.toNat := by simp [val]
    rw [h1]
    have : x.toNat * 256 ^ l.length ≤ 255 * 256 ^ l.length := Nat.mul_le_mul_right _ (by omega)
    omega
theorem val_be (n k : Nat) : val (be n k) = n % 256 ^ k := by
  induction k with
  | zero => simp [be, val, Nat.mod_one]
  | succ k ih =>
    have h := val_append [UInt8.ofNat (n / 256 ^ k)] (be n k)
    simp only [List.cons_append, List.nil_append] at h
    rw [be, h, ih, be_len]
    have h1 : val [UInt8.ofNat (n / 256 ^ k)] = n / 256 ^ k % 256 := by simp [val]
    rw [h1, Nat.pow_succ, Nat.mod_mul, Nat.mul_comm, Nat.add_comm]
theorem be_val (l : List UInt8) : be (val l) l.length = l := by
  induction l with
  | nil => rfl
  | cons x l ih =>
    have h := val_append [x] l
    simp only [List.cons_append, List.nil_append] at h
    have h1 : val [x] = x.toNat := by simp [val]
    have hl := val_lt l
    rw [List.length_cons, be, h, h1]
    have e1 : (x.toNat * 256 ^ l.length + val l) / 256 ^ l.length = x.toNat := by
      rw [Nat.mul_comm, Nat.mul_add_div (Nat.pow_pos (by decide)), Nat.div_eq_of_lt hl, Nat.add_zero]
    have e2 : be (x.toNat * 256 ^ l.length + val l) l.length = be (val l) l.length := by
      have key : ∀ k, k ≤ l.length → be (x.toNat * 256 ^ l.length + val l) k = be (val l) k := by
        intro k
        induction k with
        | zero => intro _; rfl
        | succ k ihk =>
          intro hk
          rw [be, be, ihk (by omega)]
          congr 1
          obtain ⟨d, hd⟩ : ∃ d, l.length = k + 1 + d := ⟨l.length - (k + 1), by omega⟩
          have e3 : x.toNat * 256 ^ l.length = 256 ^ k * (256 * (x.toNat * 256 ^ d)) := by
            rw [hd, Nat.pow_add, Nat.pow_succ]; simp [Nat.mul_assoc, Nat.mul_comm, Nat.mul_left_comm]
          rw [e3, Nat.mul_add_div (Nat.pow_pos (by decide))]
          apply UInt8.toNat_inj.1
          simp only [UInt8.toNat_ofNat']
          omega
      exact key _ (Nat.le_refl _)
    rw [e1, e2, ih]
    simp
structure Seen where
  time : Nat
  node : Nat
  port : Nat
  out : Bool
  bytes : List UInt8
  deriving DecidableEq
def Seen.fine (x : Seen) : Prop := x.time ≤ 1000000000 ∧ x.node < 16 ∧ x.port < 8 ∧ x.bytes.length ≤ 2000
def whereS (x : Seen) : Nat := x.node * 16 + x.port * 2 + if x.out = true then 1 else 0
def front (x : Seen) (last : Nat) : List UInt8 := be (x.time - last) 4 ++ be (whereS x) 2 ++ be x.bytes.length 2 ++ x.bytes
def recS (x : Seen) (last : Nat) : List UInt8 := front x last ++ be (crcSum (front x last)).toNat 4
theorem front_len (x : Seen) (last : Nat) : (front x last).length = 8 + x.bytes.length := by simp [front, be_len]; omega
theorem recS_len (x : Seen) (last : Nat) : (recS x last).length = 12 + x.bytes.length := by simp [recS, front_len, be_len]; omega
def nextS (s : List UInt8) (last : Nat) : Option (Seen × Nat) :=
  if s.length < 12 then none else
  let n := val ((s.drop 6).take 2)
  if n > 2000 ∨ s.length < 12 + n then none else
  let w := val ((s.drop 4).take 2)
  let x : Seen := ⟨last + val (s.take 4), w / 16, w / 2 % 8, decide (w % 2 = 1), (s.drop 8).take n⟩
  if x.time > 1000000000 ∨ x.node ≥ 16 ∨ recS x last ≠ s.take (12 + n) then none else some (x, 12 + n)
def writeS : Nat → List Seen → List UInt8
  | _, [] => []
  | last, x :: l => recS x last ++ writeS x.time l
def recoverS : Nat → List UInt8 → Nat → List Seen × Nat
  | 0, _, _ => ([], 0)
  | k + 1, s, last => match nextS s last with
    | none => ([], 0)
    | some (x, n) => (x :: (recoverS k (s.drop n) x.time).1, n + (recoverS k (s.drop n) x.time).2)
/-- In order of time, all fine. -/
def chainS : Nat → List Seen → Prop
  | _, [] => True
  | last, x :: l => x.fine ∧ last ≤ x.time ∧ chainS x.time l
theorem whereS_lt {x : Seen} (hx : x.fine) : whereS x < 256 := by
  obtain ⟨_, h2, h3, _⟩ := hx
  unfold whereS
  split <;> omega
/-- The parts of a record's front. -/
theorem parts {x : Seen} {last : Nat} (hx : x.fine) (r : List UInt8) : val ((front x last ++ r).take 4) = x.time - last ∧ val (((front x last ++ r).drop 4).take 2) = whereS x ∧ val (((front x last ++ r).drop 6).take 2) = x.bytes.length ∧ ((front x last ++ r).drop 8).take x.bytes.length = x.bytes := by
  have hw := whereS_lt hx
  obtain ⟨h1, h2, h3, h4⟩ := hx
  have l4 := be_len (x.time - last) 4
  have l2 := be_len (whereS x) 2
  have l2' := be_len x.bytes.length 2
  have e : front x last ++ r = be (x.time - last) 4 ++ (be (whereS x) 2 ++ (be x.bytes.length 2 ++ (x.bytes ++ r))) := by simp [front, List.append_assoc]
  rw [e]
  have d4 : ∀ q, (be (x.time - last) 4 ++ q).drop 4 = q := fun q => by rw [List.drop_append, List.drop_of_length_le (by omega), l4]; simp
  have d2 : ∀ q, (be (whereS x) 2 ++ q).drop 2 = q := fun q => by rw [List.drop_append, List.drop_of_length_le (by omega), l2]; simp
  have d2' : ∀ q, (be x.bytes.length 2 ++ q).drop 2 = q := fun q => by rw [List.drop_append, List.drop_of_length_le (by omega), l2']; simp
  have d6 : ∀ q, (be (x.time - last) 4 ++ (be (whereS x) 2 ++ q)).drop 6 = q := fun q => by
    rw [show (6 : Nat) = 4 + 2 from rfl, ← List.drop_drop, d4, d2]
  have d8 : ∀ q, (be (x.time - last) 4 ++ (be (whereS x) 2 ++ (be x.bytes.length 2 ++ q))).drop 8 = q := fun q => by
    rw [show (8 : Nat) = 6 + 2 from rfl, ← List.drop_drop, d6, d2']
  refine ⟨?_, ?_, ?_, ?_⟩
  · rw [List.take_append_of_le_length (by omega), List.take_of_length_le (by omega), val_be]
    exact Nat.mod_eq_of_lt (by omega)
  · rw [d4, List.take_append_of_le_length (by omega), List.take_of_length_le (by omega), val_be]
    exact Nat.mod_eq_of_lt (by omega)
  · rw [d6, List.take_append_of_le_length (by omega), List.take_of_length_le (by omega), val_be]
    exact Nat.mod_eq_of_lt (by omega)
  · rw [d8, List.take_append_of_le_length (by omega), List.take_of_length_le (by omega)]
theorem where_back {x : Seen} (hx : x.fine) : whereS x / 16 = x.node ∧ whereS x / 2 % 8 = x.port ∧ decide (whereS x % 2 = 1) = x.out := by
  obtain ⟨_, h2, h3, _⟩ := hx
  unfold whereS
  cases x.out <;> simp <;> omega
/-- A record is read back, whatever follows. -/
theorem next_rec {x : Seen} {last : Nat} (hx : x.fine) (hl : last ≤ x.time) (r : List UInt8) : nextS (recS x last ++ r) last = some (x, 12 + x.bytes.length) := by
  have hp := parts (last := last) hx (be (crcSum (front x last)).toNat 4 ++ r)
  have e : recS x last ++ r = front x last ++ (be (crcSum (front x last)).toNat 4 ++ r) := by simp [recS, List.append_assoc]
  obtain ⟨p1, p2, p3, p4⟩ := hp
  obtain ⟨w1, w2, w3⟩ := where_back hx
  have hlen : (recS x last ++ r).length = 12 + x.bytes.length + r.length := by rw [List.length_append, recS_len]
  have htk : (recS x last ++ r).take (12 + x.bytes.length) = recS x last := by rw [List.take_append_of_le_length (by rw [recS_len]; exact Nat.le_refl _), List.take_of_length_le (by rw [recS_len]; exact Nat.le_refl _)]
  have q1 : val ((recS x last ++ r).take 4) = x.time - last := by rw [e]; exact p1
  have q2 : val (((recS x last ++ r).drop 4).take 2) = whereS x := by rw [e]; exact p2
  have q3 : val (((recS x last ++ r).drop 6).take 2) = x.bytes.length := by rw [e]; exact p3
  have q4 : ((recS x last ++ r).drop 8).take x.bytes.length = x.bytes := by rw [e]; exact p4
  have ht : last + (x.time - last) = x.time := by omega
  have hx0 : (⟨x.time, x.node, x.port, x.out, x.bytes⟩ : Seen) = x := rfl
  unfold nextS
  rw [if_neg (by omega)]
  simp only
  rw [q1, q2, q3, q4, ht, w1, w2, w3, htk, hlen]
  obtain ⟨h1, h2, h3, h4⟩ := hx
  rw [if_neg (by omega), if_neg (by simp; omega)]
theorem recover_write : ∀ (k : Nat) (l : List Seen) (last : Nat) (r : List UInt8), chainS last l → l.length ≤ k → recoverS k (writeS last l ++ r) last = (l ++ (recoverS (k - l.length) r ((l.getLast?.map (·.time)).getD last)).1, (writeS last l).length + (recoverS (k - l.length) r ((l.getLast?.map (·.time)).getD last)).2)
  | k, [], last, r, _, _ => by simp [writeS]
  | 0, x :: l, last, r, _, h => by simp at h
  | k + 1, x :: l, last, r, hc, hk => by
    obtain ⟨hx, hl, hc⟩ := hc
    simp only [List.length_cons] at hk
    have e : writeS last (x :: l) ++ r = recS x last ++ (writeS x.time l ++ r) := by simp [writeS, List.append_assoc]
    have ed : (recS x last ++ (writeS x.time l ++ r)).drop (12 + x.bytes.length) = writeS x.time l ++ r := by
      rw [List.drop_append, List.drop_of_length_le (by rw [recS_len]; exact Nat.le_refl _), recS_len]; simp
    have ih := recover_write k l x.time r hc (by omega)
    have eg : ((x :: l).getLast?.map (·.time)).getD last = (l.getLast?.map (·.time)).getD x.time := by
      cases l with
      | nil => rfl
      | cons y l =>
        rw [List.getLast?_cons_cons]
        cases hg : (y :: l).getLast? with
        | none => simp at hg
        | some z => rfl
    have ek : k + 1 - (x :: l).length = k - l.length := by simp
    rw [recoverS, e, next_rec hx hl, eg, ek]
    simp only [ed, ih, writeS, List.length_append, recS_len]
    refine Prod.ext rfl ?_
    simp only
    omega
/-- A record that is cut is not read. -/
theorem next_torn {x : Seen} {last : Nat} (hx : x.fine) (n : Nat) (hn : n < 12 + x.bytes.length) (r : List UInt8) : nextS ((recS x last ++ r).take n) last = none := by
  unfold nextS
  have hlen : ((recS x last ++ r).take n).length = n := by rw [List.length_take, List.length_append, recS_len]; omega
  rw [hlen]
  by_cases h12 : n < 12
  · rw [if_pos h12]
  · rw [if_neg h12]
    have e : recS x last ++ r = front x last ++ (be (crcSum (front x last)).toNat 4 ++ r) := by simp [recS, List.append_assoc]
    have hp := (parts (last := last) hx (be (crcSum (front x last)).toNat 4 ++ r)).2.2.1
    have e2 : (((recS x last ++ r).take n).drop 6).take 2 = ((recS x last ++ r).drop 6).take 2 := by
      rw [List.drop_take, List.take_take, Nat.min_eq_left (by omega)]
    rw [e2, e, hp]
    simp only
    rw [if_pos (by omega)]
theorem next_nil (last : Nat) : nextS [] last = none := by simp [nextS]
/-- What is recovered of a capture whose end is missing. -/
theorem recover_torn : ∀ (k : Nat) (l : List Seen) (last n : Nat), chainS last l → l.length ≤ k → n ≤ (writeS last l).length →
    ∃ m, m ≤ l.length ∧ (recoverS k ((writeS last l).take n) last).1 = l.take m ∧ (recoverS k ((writeS last l).take n) last).2 ≤ n ∧ (m = l.length ∨ n < (writeS last (l.take (m + 1))).length)
  | k, [], last, n, _, _, hn => by
    refine ⟨0, Nat.le_refl _, ?_, ?_, .inl rfl⟩ <;> cases k <;> simp [writeS, recoverS, next_nil]
  | 0, x :: l, last, n, _, h, _ => by simp at h
  | k + 1, x :: l, last, n, hc, hk, hn => by
    obtain ⟨hx, hl, hc⟩ := hc
    simp only [List.length_cons] at hk
    by_cases hb : n < 12 + x.bytes.length
    · refine ⟨0, by omega, ?_, ?_, .inr ?_⟩
      · simp only [recoverS, writeS, next_torn hx n hb, List.take_zero]
      · simp only [recoverS, writeS, next_torn hx n hb]; omega
      · simp [writeS, recS_len]; omega
    · have e1 : (writeS last (x :: l)).take n = recS x last ++ (writeS x.time l).take (n - (12 + x.bytes.length)) := by
        rw [writeS, List.take_append, List.take_of_length_le (by rw [recS_len]; omega), recS_len]
      have hlen : (writeS last (x :: l)).length = 12 + x.bytes.length + (writeS x.time l).length := by rw [writeS, List.length_append, recS_len]
      obtain ⟨m, hm, h1, h2, h3⟩ := recover_torn k l x.time (n - (12 + x.bytes.length)) hc (by omega) (by omega)
      have ed : (recS x last ++ (writeS x.time l).take (n - (12 + x.bytes.length))).drop (12 + x.bytes.length) = (writeS x.time l).take (n - (12 + x.bytes.length)) := by
        rw [List.drop_append, List.drop_of_length_le (by rw [recS_len]; exact Nat.le_refl _), recS_len]; simp
      refine ⟨m + 1, by simp; omega, ?_, ?_, ?_⟩
      · rw [recoverS, e1, next_rec hx hl]; simp only [ed, h1, List.take_succ_cons]
      · rw [recoverS, e1, next_rec hx hl]; simp only [ed]; omega
      · rcases h3 with h3 | h3
        · left; simp [h3]
        · right
          rw [List.take_succ_cons, writeS, List.length_append, recS_len]; omega
end Go.Abs
