/- Facts on the program's types, each asked of the loaded program. Printed by tyg.py. -/
import Derived.Test.YtfgbplbohekghaaProg
import Derived.Test.YtfgbplbohekghaaL4
set_option maxRecDepth 100000
namespace Go.Proofs.Ytfgbplbohekghaa
open Go.Wl
theorem sh2 : shapeOf Try.prog 2 = some (false, 1) := by kernel_rfl
theorem ze2 : zeroOf Try.prog 2 = some (.int .i64 0) := by kernel_rfl
theorem sh3 : shapeOf Try.prog 3 = some (false, 1) := by kernel_rfl
theorem ze3 : zeroOf Try.prog 3 = some (.int .i64 0) := by kernel_rfl
theorem sh4 : shapeOf Try.prog 4 = some (false, 1) := by kernel_rfl
theorem ze4 : zeroOf Try.prog 4 = some (.bool false) := by kernel_rfl
theorem sh5 : shapeOf Try.prog 5 = some (false, 1) := by kernel_rfl
theorem ze5 : zeroOf Try.prog 5 = some (.int .u8 0) := by kernel_rfl
theorem sh6 : shapeOf Try.prog 6 = some (false, 1) := by kernel_rfl
theorem ze6 : zeroOf Try.prog 6 = some (.int .u8 0) := by kernel_rfl
theorem sh7 : shapeOf Try.prog 7 = some (true, 4) := by kernel_rfl
theorem ze7 : zeroOf Try.prog 7 = some (.agg #[.int .i64 0, .int .i64 0, .bool false, .int .u8 0]) := by kernel_rfl
theorem fo7_0 : fieldOff Try.prog 7 0 = some 0 := by kernel_rfl
theorem fo7_1 : fieldOff Try.prog 7 1 = some 1 := by kernel_rfl
theorem fo7_2 : fieldOff Try.prog 7 2 = some 2 := by kernel_rfl
theorem fo7_3 : fieldOff Try.prog 7 3 = some 3 := by kernel_rfl
theorem sh8 : shapeOf Try.prog 8 = some (true, 4) := by kernel_rfl
theorem ze8 : zeroOf Try.prog 8 = some (.agg #[.int .i64 0, .int .i64 0, .bool false, .int .u8 0]) := by kernel_rfl
theorem fo8_0 : fieldOff Try.prog 8 0 = some 0 := by kernel_rfl
theorem fo8_1 : fieldOff Try.prog 8 1 = some 1 := by kernel_rfl
theorem fo8_2 : fieldOff Try.prog 8 2 = some 2 := by kernel_rfl
theorem fo8_3 : fieldOff Try.prog 8 3 = some 3 := by kernel_rfl
theorem sh9 : shapeOf Try.prog 9 = some (false, 1) := by kernel_rfl
theorem ze9 : zeroOf Try.prog 9 = some (.string { data := #[] }) := by kernel_rfl
theorem sh10 : shapeOf Try.prog 10 = some (false, 1) := by kernel_rfl
theorem ze10 : zeroOf Try.prog 10 = some (.string { data := #[] }) := by kernel_rfl
theorem sh11 : shapeOf Try.prog 11 = some (false, 1) := by kernel_rfl
theorem ze11 : zeroOf Try.prog 11 = some (.string { data := #[] }) := by kernel_rfl
theorem sh12 : shapeOf Try.prog 12 = some (false, 1) := by kernel_rfl
theorem ze12 : zeroOf Try.prog 12 = some (.int .u64 0) := by kernel_rfl
theorem sh13 : shapeOf Try.prog 13 = some (true, 2) := by kernel_rfl
theorem ze13 : zeroOf Try.prog 13 = some (.agg #[.string { data := #[] }, .int .u64 0]) := by kernel_rfl
theorem fo13_0 : fieldOff Try.prog 13 0 = some 0 := by kernel_rfl
theorem fo13_1 : fieldOff Try.prog 13 1 = some 1 := by kernel_rfl
theorem sh14 : shapeOf Try.prog 14 = some (true, 2) := by kernel_rfl
theorem ze14 : zeroOf Try.prog 14 = some (.agg #[.string { data := #[] }, .int .u64 0]) := by kernel_rfl
theorem fo14_0 : fieldOff Try.prog 14 0 = some 0 := by kernel_rfl
theorem fo14_1 : fieldOff Try.prog 14 1 = some 1 := by kernel_rfl
theorem sh15 : shapeOf Try.prog 15 = some (false, 1) := by kernel_rfl
theorem ze15 : zeroOf Try.prog 15 = some (.pointer none) := by kernel_rfl
theorem sh16 : shapeOf Try.prog 16 = some (false, 1) := by kernel_rfl
theorem ze16 : zeroOf Try.prog 16 = some (.pointer none) := by kernel_rfl
theorem sh17 : shapeOf Try.prog 17 = some (false, 1) := by kernel_rfl
theorem ze17 : zeroOf Try.prog 17 = some (.pointer none) := by kernel_rfl
theorem sh18 : shapeOf Try.prog 18 = some (true, 1) := by kernel_rfl
theorem ze18 : zeroOf Try.prog 18 = some (.agg #[.pointer none]) := by kernel_rfl
theorem fo18_0 : fieldOff Try.prog 18 0 = some 0 := by kernel_rfl
theorem sh19 : shapeOf Try.prog 19 = some (true, 1) := by kernel_rfl
theorem ze19 : zeroOf Try.prog 19 = some (.agg #[.pointer none]) := by kernel_rfl
theorem fo19_0 : fieldOff Try.prog 19 0 = some 0 := by kernel_rfl
theorem sh20 : shapeOf Try.prog 20 = some (false, 1) := by kernel_rfl
theorem ze20 : zeroOf Try.prog 20 = some .nilIface := by kernel_rfl
theorem sh21 : shapeOf Try.prog 21 = some (false, 1) := by kernel_rfl
theorem ze21 : zeroOf Try.prog 21 = some (.int .i32 0) := by kernel_rfl
theorem sh22 : shapeOf Try.prog 22 = some (false, 1) := by kernel_rfl
theorem ze22 : zeroOf Try.prog 22 = some (.slice none 0 0) := by kernel_rfl
theorem el22 : elemOf' Try.prog 22 = some (29, 2, 40, (.agg #[.string { data := #[] }, .slice none 0 0])) := by kernel_rfl
theorem sh23 : shapeOf Try.prog 23 = some (false, 1) := by kernel_rfl
theorem ze23 : zeroOf Try.prog 23 = some .nilIface := by kernel_rfl
theorem sh24 : shapeOf Try.prog 24 = some (false, 1) := by kernel_rfl
theorem ze24 : zeroOf Try.prog 24 = some .nilIface := by kernel_rfl
theorem sh27 : shapeOf Try.prog 27 = some (false, 1) := by kernel_rfl
theorem ze27 : zeroOf Try.prog 27 = some (.slice none 0 0) := by kernel_rfl
theorem el27 : elemOf' Try.prog 27 = some (3, 1, 8, (.int .i64 0)) := by kernel_rfl
theorem sh28 : shapeOf Try.prog 28 = some (true, 2) := by kernel_rfl
theorem ze28 : zeroOf Try.prog 28 = some (.agg #[.string { data := #[] }, .slice none 0 0]) := by kernel_rfl
theorem fo28_0 : fieldOff Try.prog 28 0 = some 0 := by kernel_rfl
theorem fo28_1 : fieldOff Try.prog 28 1 = some 1 := by kernel_rfl
theorem sh29 : shapeOf Try.prog 29 = some (true, 2) := by kernel_rfl
theorem ze29 : zeroOf Try.prog 29 = some (.agg #[.string { data := #[] }, .slice none 0 0]) := by kernel_rfl
theorem fo29_0 : fieldOff Try.prog 29 0 = some 0 := by kernel_rfl
theorem fo29_1 : fieldOff Try.prog 29 1 = some 1 := by kernel_rfl
theorem sh38 : shapeOf Try.prog 38 = some (false, 1) := by kernel_rfl
theorem ze38 : zeroOf Try.prog 38 = some (.int .i64 0) := by kernel_rfl
theorem sh40 : shapeOf Try.prog 40 = some (false, 1) := by kernel_rfl
theorem ze40 : zeroOf Try.prog 40 = some (.map none) := by kernel_rfl
theorem sh44 : shapeOf Try.prog 44 = some (false, 1) := by kernel_rfl
theorem ze44 : zeroOf Try.prog 44 = some (.slice none 0 0) := by kernel_rfl
theorem el44 : elemOf' Try.prog 44 = some (9, 1, 16, (.string { data := #[] })) := by kernel_rfl
theorem sh52 : shapeOf Try.prog 52 = some (false, 1) := by kernel_rfl
theorem ze52 : zeroOf Try.prog 52 = some (.slice none 0 0) := by kernel_rfl
theorem el52 : elemOf' Try.prog 52 = some (22, 1, 24, (.slice none 0 0)) := by kernel_rfl
theorem sh58 : shapeOf Try.prog 58 = some (false, 1) := by kernel_rfl
theorem ze58 : zeroOf Try.prog 58 = some (.int .u64 0) := by kernel_rfl
theorem sh65 : shapeOf Try.prog 65 = some (false, 1) := by kernel_rfl
theorem ze65 : zeroOf Try.prog 65 = some (.int .i64 0) := by kernel_rfl
theorem sh73 : shapeOf Try.prog 73 = some (false, 1) := by kernel_rfl
theorem ze73 : zeroOf Try.prog 73 = some (.int .u32 0) := by kernel_rfl
theorem sh75 : shapeOf Try.prog 75 = some (false, 1) := by kernel_rfl
theorem ze75 : zeroOf Try.prog 75 = some (.int .u64 0) := by kernel_rfl
theorem sh76 : shapeOf Try.prog 76 = some (false, 1) := by kernel_rfl
theorem ze76 : zeroOf Try.prog 76 = some (.map none) := by kernel_rfl
theorem sh82 : shapeOf Try.prog 82 = some (false, 1) := by kernel_rfl
theorem ze82 : zeroOf Try.prog 82 = some (.int .u64 0) := by kernel_rfl
theorem sh86 : shapeOf Try.prog 86 = some (false, 1) := by kernel_rfl
theorem ze86 : zeroOf Try.prog 86 = some (.pointer none) := by kernel_rfl
theorem sh91 : shapeOf Try.prog 91 = some (false, 1) := by kernel_rfl
theorem ze91 : zeroOf Try.prog 91 = some (.pointer none) := by kernel_rfl
theorem sh95 : shapeOf Try.prog 95 = some (true, 4) := by kernel_rfl
theorem ze95 : zeroOf Try.prog 95 = some (.agg #[.pointer none, .pointer none, .pointer none, .string { data := #[] }]) := by kernel_rfl
theorem fo95_0 : fieldOff Try.prog 95 0 = some 0 := by kernel_rfl
theorem fo95_1 : fieldOff Try.prog 95 1 = some 1 := by kernel_rfl
theorem fo95_2 : fieldOff Try.prog 95 2 = some 2 := by kernel_rfl
theorem fo95_3 : fieldOff Try.prog 95 3 = some 3 := by kernel_rfl
theorem sh96 : shapeOf Try.prog 96 = some (true, 4) := by kernel_rfl
theorem ze96 : zeroOf Try.prog 96 = some (.agg #[.pointer none, .pointer none, .pointer none, .string { data := #[] }]) := by kernel_rfl
theorem fo96_0 : fieldOff Try.prog 96 0 = some 0 := by kernel_rfl
theorem fo96_1 : fieldOff Try.prog 96 1 = some 1 := by kernel_rfl
theorem fo96_2 : fieldOff Try.prog 96 2 = some 2 := by kernel_rfl
theorem fo96_3 : fieldOff Try.prog 96 3 = some 3 := by kernel_rfl
theorem sh97 : shapeOf Try.prog 97 = some (true, 0) := by kernel_rfl
theorem ze97 : zeroOf Try.prog 97 = some (.agg #[]) := by kernel_rfl
theorem sh98 : shapeOf Try.prog 98 = some (true, 0) := by kernel_rfl
theorem ze98 : zeroOf Try.prog 98 = some (.agg #[]) := by kernel_rfl
theorem sh99 : shapeOf Try.prog 99 = some (true, 0) := by kernel_rfl
theorem ze99 : zeroOf Try.prog 99 = some (.agg #[]) := by kernel_rfl
theorem sh101 : shapeOf Try.prog 101 = some (false, 1) := by kernel_rfl
theorem ze101 : zeroOf Try.prog 101 = some (.int .u8 0) := by kernel_rfl
theorem sh102 : shapeOf Try.prog 102 = some (false, 1) := by kernel_rfl
theorem ze102 : zeroOf Try.prog 102 = some (.int .u8 0) := by kernel_rfl
theorem sh104 : shapeOf Try.prog 104 = some (false, 1) := by kernel_rfl
theorem ze104 : zeroOf Try.prog 104 = some (.pointer none) := by kernel_rfl
theorem sh105 : shapeOf Try.prog 105 = some (false, 1) := by kernel_rfl
theorem ze105 : zeroOf Try.prog 105 = some (.int .i32 0) := by kernel_rfl
theorem sh106 : shapeOf Try.prog 106 = some (false, 1) := by kernel_rfl
theorem ze106 : zeroOf Try.prog 106 = some (.int .i32 0) := by kernel_rfl
theorem sh107 : shapeOf Try.prog 107 = some (true, 11) := by kernel_rfl
theorem ze107 : zeroOf Try.prog 107 = some (.agg #[.int .u64 0, .int .u64 0, .int .u32 0, .int .u8 0, .int .u8 0, .int .u8 0, .int .u8 0, .nilFunc, .pointer none, .int .i32 0, .int .i32 0]) := by kernel_rfl
theorem fo107_0 : fieldOff Try.prog 107 0 = some 0 := by kernel_rfl
theorem fo107_1 : fieldOff Try.prog 107 1 = some 1 := by kernel_rfl
theorem fo107_2 : fieldOff Try.prog 107 2 = some 2 := by kernel_rfl
theorem fo107_3 : fieldOff Try.prog 107 3 = some 3 := by kernel_rfl
theorem fo107_4 : fieldOff Try.prog 107 4 = some 4 := by kernel_rfl
theorem fo107_5 : fieldOff Try.prog 107 5 = some 5 := by kernel_rfl
theorem fo107_6 : fieldOff Try.prog 107 6 = some 6 := by kernel_rfl
theorem fo107_7 : fieldOff Try.prog 107 7 = some 7 := by kernel_rfl
theorem fo107_8 : fieldOff Try.prog 107 8 = some 8 := by kernel_rfl
theorem fo107_9 : fieldOff Try.prog 107 9 = some 9 := by kernel_rfl
theorem fo107_10 : fieldOff Try.prog 107 10 = some 10 := by kernel_rfl
theorem sh108 : shapeOf Try.prog 108 = some (true, 11) := by kernel_rfl
theorem ze108 : zeroOf Try.prog 108 = some (.agg #[.int .u64 0, .int .u64 0, .int .u32 0, .int .u8 0, .int .u8 0, .int .u8 0, .int .u8 0, .nilFunc, .pointer none, .int .i32 0, .int .i32 0]) := by kernel_rfl
theorem fo108_0 : fieldOff Try.prog 108 0 = some 0 := by kernel_rfl
theorem fo108_1 : fieldOff Try.prog 108 1 = some 1 := by kernel_rfl
theorem fo108_2 : fieldOff Try.prog 108 2 = some 2 := by kernel_rfl
theorem fo108_3 : fieldOff Try.prog 108 3 = some 3 := by kernel_rfl
theorem fo108_4 : fieldOff Try.prog 108 4 = some 4 := by kernel_rfl
theorem fo108_5 : fieldOff Try.prog 108 5 = some 5 := by kernel_rfl
theorem fo108_6 : fieldOff Try.prog 108 6 = some 6 := by kernel_rfl
theorem fo108_7 : fieldOff Try.prog 108 7 = some 7 := by kernel_rfl
theorem fo108_8 : fieldOff Try.prog 108 8 = some 8 := by kernel_rfl
theorem fo108_9 : fieldOff Try.prog 108 9 = some 9 := by kernel_rfl
theorem fo108_10 : fieldOff Try.prog 108 10 = some 10 := by kernel_rfl
end Go.Proofs.Ytfgbplbohekghaa
