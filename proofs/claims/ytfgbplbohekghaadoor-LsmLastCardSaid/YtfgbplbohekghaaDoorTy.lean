/- Facts on the program's types, each asked of the loaded program. Printed by tyg.py. -/
import Derived.Test.YtfgbplbohekghaaDoorProg
import Derived.Test.YtfgbplbohekghaaDoorL4
set_option maxRecDepth 100000
namespace Go.Proofs.YtfgbplbohekghaaDoor
open Go.Wl
theorem sh2 : shapeOf Tryd.prog 2 = some (false, 1) := by kernel_rfl
theorem ze2 : zeroOf Tryd.prog 2 = some (.int .i64 0) := by kernel_rfl
theorem sh3 : shapeOf Tryd.prog 3 = some (false, 1) := by kernel_rfl
theorem ze3 : zeroOf Tryd.prog 3 = some (.int .i64 0) := by kernel_rfl
theorem sh4 : shapeOf Tryd.prog 4 = some (false, 1) := by kernel_rfl
theorem ze4 : zeroOf Tryd.prog 4 = some (.bool false) := by kernel_rfl
theorem sh5 : shapeOf Tryd.prog 5 = some (false, 1) := by kernel_rfl
theorem ze5 : zeroOf Tryd.prog 5 = some (.int .u8 0) := by kernel_rfl
theorem sh6 : shapeOf Tryd.prog 6 = some (false, 1) := by kernel_rfl
theorem ze6 : zeroOf Tryd.prog 6 = some (.int .u8 0) := by kernel_rfl
theorem sh7 : shapeOf Tryd.prog 7 = some (true, 4) := by kernel_rfl
theorem ze7 : zeroOf Tryd.prog 7 = some (.agg #[.int .i64 0, .int .i64 0, .bool false, .int .u8 0]) := by kernel_rfl
theorem fo7_0 : fieldOff Tryd.prog 7 0 = some 0 := by kernel_rfl
theorem fo7_1 : fieldOff Tryd.prog 7 1 = some 1 := by kernel_rfl
theorem fo7_2 : fieldOff Tryd.prog 7 2 = some 2 := by kernel_rfl
theorem fo7_3 : fieldOff Tryd.prog 7 3 = some 3 := by kernel_rfl
theorem sh8 : shapeOf Tryd.prog 8 = some (true, 4) := by kernel_rfl
theorem ze8 : zeroOf Tryd.prog 8 = some (.agg #[.int .i64 0, .int .i64 0, .bool false, .int .u8 0]) := by kernel_rfl
theorem fo8_0 : fieldOff Tryd.prog 8 0 = some 0 := by kernel_rfl
theorem fo8_1 : fieldOff Tryd.prog 8 1 = some 1 := by kernel_rfl
theorem fo8_2 : fieldOff Tryd.prog 8 2 = some 2 := by kernel_rfl
theorem fo8_3 : fieldOff Tryd.prog 8 3 = some 3 := by kernel_rfl
theorem sh9 : shapeOf Tryd.prog 9 = some (false, 1) := by kernel_rfl
theorem ze9 : zeroOf Tryd.prog 9 = some (.string { data := #[] }) := by kernel_rfl
theorem sh10 : shapeOf Tryd.prog 10 = some (false, 1) := by kernel_rfl
theorem ze10 : zeroOf Tryd.prog 10 = some (.string { data := #[] }) := by kernel_rfl
theorem sh11 : shapeOf Tryd.prog 11 = some (false, 1) := by kernel_rfl
theorem ze11 : zeroOf Tryd.prog 11 = some (.string { data := #[] }) := by kernel_rfl
theorem sh12 : shapeOf Tryd.prog 12 = some (false, 1) := by kernel_rfl
theorem ze12 : zeroOf Tryd.prog 12 = some (.int .u64 0) := by kernel_rfl
theorem sh13 : shapeOf Tryd.prog 13 = some (true, 2) := by kernel_rfl
theorem ze13 : zeroOf Tryd.prog 13 = some (.agg #[.string { data := #[] }, .int .u64 0]) := by kernel_rfl
theorem fo13_0 : fieldOff Tryd.prog 13 0 = some 0 := by kernel_rfl
theorem fo13_1 : fieldOff Tryd.prog 13 1 = some 1 := by kernel_rfl
theorem sh14 : shapeOf Tryd.prog 14 = some (true, 2) := by kernel_rfl
theorem ze14 : zeroOf Tryd.prog 14 = some (.agg #[.string { data := #[] }, .int .u64 0]) := by kernel_rfl
theorem fo14_0 : fieldOff Tryd.prog 14 0 = some 0 := by kernel_rfl
theorem fo14_1 : fieldOff Tryd.prog 14 1 = some 1 := by kernel_rfl
theorem sh15 : shapeOf Tryd.prog 15 = some (false, 1) := by kernel_rfl
theorem ze15 : zeroOf Tryd.prog 15 = some (.pointer none) := by kernel_rfl
theorem sh16 : shapeOf Tryd.prog 16 = some (false, 1) := by kernel_rfl
theorem ze16 : zeroOf Tryd.prog 16 = some (.pointer none) := by kernel_rfl
theorem sh17 : shapeOf Tryd.prog 17 = some (false, 1) := by kernel_rfl
theorem ze17 : zeroOf Tryd.prog 17 = some (.pointer none) := by kernel_rfl
theorem sh18 : shapeOf Tryd.prog 18 = some (true, 1) := by kernel_rfl
theorem ze18 : zeroOf Tryd.prog 18 = some (.agg #[.pointer none]) := by kernel_rfl
theorem fo18_0 : fieldOff Tryd.prog 18 0 = some 0 := by kernel_rfl
theorem sh19 : shapeOf Tryd.prog 19 = some (true, 1) := by kernel_rfl
theorem ze19 : zeroOf Tryd.prog 19 = some (.agg #[.pointer none]) := by kernel_rfl
theorem fo19_0 : fieldOff Tryd.prog 19 0 = some 0 := by kernel_rfl
theorem sh20 : shapeOf Tryd.prog 20 = some (false, 1) := by kernel_rfl
theorem ze20 : zeroOf Tryd.prog 20 = some .nilIface := by kernel_rfl
theorem sh21 : shapeOf Tryd.prog 21 = some (false, 1) := by kernel_rfl
theorem ze21 : zeroOf Tryd.prog 21 = some (.int .i32 0) := by kernel_rfl
theorem sh22 : shapeOf Tryd.prog 22 = some (false, 1) := by kernel_rfl
theorem ze22 : zeroOf Tryd.prog 22 = some (.slice none 0 0) := by kernel_rfl
theorem el22 : elemOf' Tryd.prog 22 = some (9, 1, 16, (.string { data := #[] })) := by kernel_rfl
theorem sh23 : shapeOf Tryd.prog 23 = some (false, 1) := by kernel_rfl
theorem ze23 : zeroOf Tryd.prog 23 = some (.pointer none) := by kernel_rfl
theorem sh24 : shapeOf Tryd.prog 24 = some (false, 1) := by kernel_rfl
theorem ze24 : zeroOf Tryd.prog 24 = some .nilIface := by kernel_rfl
theorem sh25 : shapeOf Tryd.prog 25 = some (false, 1) := by kernel_rfl
theorem ze25 : zeroOf Tryd.prog 25 = some .nilIface := by kernel_rfl
theorem sh37 : shapeOf Tryd.prog 37 = some (true, 3) := by kernel_rfl
theorem ze37 : zeroOf Tryd.prog 37 = some (.agg #[.string { data := #[] }, .string { data := #[] }, .bool false]) := by kernel_rfl
theorem fo37_0 : fieldOff Tryd.prog 37 0 = some 0 := by kernel_rfl
theorem fo37_1 : fieldOff Tryd.prog 37 1 = some 1 := by kernel_rfl
theorem fo37_2 : fieldOff Tryd.prog 37 2 = some 2 := by kernel_rfl
theorem sh38 : shapeOf Tryd.prog 38 = some (true, 3) := by kernel_rfl
theorem ze38 : zeroOf Tryd.prog 38 = some (.agg #[.string { data := #[] }, .string { data := #[] }, .bool false]) := by kernel_rfl
theorem fo38_0 : fieldOff Tryd.prog 38 0 = some 0 := by kernel_rfl
theorem fo38_1 : fieldOff Tryd.prog 38 1 = some 1 := by kernel_rfl
theorem fo38_2 : fieldOff Tryd.prog 38 2 = some 2 := by kernel_rfl
theorem sh39 : shapeOf Tryd.prog 39 = some (false, 1) := by kernel_rfl
theorem ze39 : zeroOf Tryd.prog 39 = some (.slice none 0 0) := by kernel_rfl
theorem el39 : elemOf' Tryd.prog 39 = some (38, 3, 40, (.agg #[.string { data := #[] }, .string { data := #[] }, .bool false])) := by kernel_rfl
theorem sh41 : shapeOf Tryd.prog 41 = some (false, 1) := by kernel_rfl
theorem ze41 : zeroOf Tryd.prog 41 = some (.int .i64 0) := by kernel_rfl
theorem sh42 : shapeOf Tryd.prog 42 = some (false, 1) := by kernel_rfl
theorem ze42 : zeroOf Tryd.prog 42 = some (.slice none 0 0) := by kernel_rfl
theorem el42 : elemOf' Tryd.prog 42 = some (5, 1, 1, (.int .u8 0)) := by kernel_rfl
theorem sh45 : shapeOf Tryd.prog 45 = some (false, 1) := by kernel_rfl
theorem ze45 : zeroOf Tryd.prog 45 = some (.slice none 0 0) := by kernel_rfl
theorem el45 : elemOf' Tryd.prog 45 = some (42, 1, 24, (.slice none 0 0)) := by kernel_rfl
theorem sh47 : shapeOf Tryd.prog 47 = some (false, 1) := by kernel_rfl
theorem ze47 : zeroOf Tryd.prog 47 = some (.map none) := by kernel_rfl
theorem sh48 : shapeOf Tryd.prog 48 = some (false, 1) := by kernel_rfl
theorem ze48 : zeroOf Tryd.prog 48 = some (.slice none 0 0) := by kernel_rfl
theorem el48 : elemOf' Tryd.prog 48 = some (39, 1, 24, (.slice none 0 0)) := by kernel_rfl
theorem sh49 : shapeOf Tryd.prog 49 = some (true, 4) := by kernel_rfl
theorem ze49 : zeroOf Tryd.prog 49 = some (.agg #[.int .i64 0, .map none, .slice none 0 0, .slice none 0 0]) := by kernel_rfl
theorem fo49_0 : fieldOff Tryd.prog 49 0 = some 0 := by kernel_rfl
theorem fo49_1 : fieldOff Tryd.prog 49 1 = some 1 := by kernel_rfl
theorem fo49_2 : fieldOff Tryd.prog 49 2 = some 2 := by kernel_rfl
theorem fo49_3 : fieldOff Tryd.prog 49 3 = some 3 := by kernel_rfl
theorem sh50 : shapeOf Tryd.prog 50 = some (true, 4) := by kernel_rfl
theorem ze50 : zeroOf Tryd.prog 50 = some (.agg #[.int .i64 0, .map none, .slice none 0 0, .slice none 0 0]) := by kernel_rfl
theorem fo50_0 : fieldOff Tryd.prog 50 0 = some 0 := by kernel_rfl
theorem fo50_1 : fieldOff Tryd.prog 50 1 = some 1 := by kernel_rfl
theorem fo50_2 : fieldOff Tryd.prog 50 2 = some 2 := by kernel_rfl
theorem fo50_3 : fieldOff Tryd.prog 50 3 = some 3 := by kernel_rfl
theorem sh68 : shapeOf Tryd.prog 68 = some (false, 1) := by kernel_rfl
theorem ze68 : zeroOf Tryd.prog 68 = some (.pointer none) := by kernel_rfl
theorem sh71 : shapeOf Tryd.prog 71 = some (true, 3) := by kernel_rfl
theorem ze71 : zeroOf Tryd.prog 71 = some (.agg #[.slice none 0 0, .int .i64 0, .nilIface]) := by kernel_rfl
theorem fo71_0 : fieldOff Tryd.prog 71 0 = some 0 := by kernel_rfl
theorem fo71_1 : fieldOff Tryd.prog 71 1 = some 1 := by kernel_rfl
theorem fo71_2 : fieldOff Tryd.prog 71 2 = some 2 := by kernel_rfl
theorem sh72 : shapeOf Tryd.prog 72 = some (true, 3) := by kernel_rfl
theorem ze72 : zeroOf Tryd.prog 72 = some (.agg #[.slice none 0 0, .int .i64 0, .nilIface]) := by kernel_rfl
theorem fo72_0 : fieldOff Tryd.prog 72 0 = some 0 := by kernel_rfl
theorem fo72_1 : fieldOff Tryd.prog 72 1 = some 1 := by kernel_rfl
theorem fo72_2 : fieldOff Tryd.prog 72 2 = some 2 := by kernel_rfl
theorem sh79 : shapeOf Tryd.prog 79 = some (false, 1) := by kernel_rfl
theorem ze79 : zeroOf Tryd.prog 79 = some (.int .u64 0) := by kernel_rfl
theorem sh80 : shapeOf Tryd.prog 80 = some (false, 1) := by kernel_rfl
theorem ze80 : zeroOf Tryd.prog 80 = some (.int .u64 0) := by kernel_rfl
theorem sh81 : shapeOf Tryd.prog 81 = some (false, 1) := by kernel_rfl
theorem ze81 : zeroOf Tryd.prog 81 = some (.int .u32 0) := by kernel_rfl
theorem sh84 : shapeOf Tryd.prog 84 = some (false, 1) := by kernel_rfl
theorem ze84 : zeroOf Tryd.prog 84 = some (.int .u64 0) := by kernel_rfl
theorem sh85 : shapeOf Tryd.prog 85 = some (true, 3) := by kernel_rfl
theorem ze85 : zeroOf Tryd.prog 85 = some (.agg #[.pointer none, .pointer none, .int .u64 0]) := by kernel_rfl
theorem fo85_0 : fieldOff Tryd.prog 85 0 = some 0 := by kernel_rfl
theorem fo85_1 : fieldOff Tryd.prog 85 1 = some 1 := by kernel_rfl
theorem fo85_2 : fieldOff Tryd.prog 85 2 = some 2 := by kernel_rfl
theorem sh86 : shapeOf Tryd.prog 86 = some (true, 3) := by kernel_rfl
theorem ze86 : zeroOf Tryd.prog 86 = some (.agg #[.pointer none, .pointer none, .int .u64 0]) := by kernel_rfl
theorem fo86_0 : fieldOff Tryd.prog 86 0 = some 0 := by kernel_rfl
theorem fo86_1 : fieldOff Tryd.prog 86 1 = some 1 := by kernel_rfl
theorem fo86_2 : fieldOff Tryd.prog 86 2 = some 2 := by kernel_rfl
theorem sh88 : shapeOf Tryd.prog 88 = some (false, 1) := by kernel_rfl
theorem ze88 : zeroOf Tryd.prog 88 = some .nilIface := by kernel_rfl
theorem sh89 : shapeOf Tryd.prog 89 = some (false, 1) := by kernel_rfl
theorem ze89 : zeroOf Tryd.prog 89 = some .nilIface := by kernel_rfl
theorem sh91 : shapeOf Tryd.prog 91 = some (false, 1) := by kernel_rfl
theorem ze91 : zeroOf Tryd.prog 91 = some (.int .u8 0) := by kernel_rfl
theorem sh97 : shapeOf Tryd.prog 97 = some (false, 1) := by kernel_rfl
theorem ze97 : zeroOf Tryd.prog 97 = some (.pointer none) := by kernel_rfl
theorem sh102 : shapeOf Tryd.prog 102 = some (true, 1) := by kernel_rfl
theorem ze102 : zeroOf Tryd.prog 102 = some (.agg #[.pointer none]) := by kernel_rfl
theorem fo102_0 : fieldOff Tryd.prog 102 0 = some 0 := by kernel_rfl
theorem sh103 : shapeOf Tryd.prog 103 = some (true, 1) := by kernel_rfl
theorem ze103 : zeroOf Tryd.prog 103 = some (.agg #[.pointer none]) := by kernel_rfl
theorem fo103_0 : fieldOff Tryd.prog 103 0 = some 0 := by kernel_rfl
theorem sh104 : shapeOf Tryd.prog 104 = some (false, 1) := by kernel_rfl
theorem ze104 : zeroOf Tryd.prog 104 = some (.pointer none) := by kernel_rfl
theorem sh108 : shapeOf Tryd.prog 108 = some (false, 1) := by kernel_rfl
theorem ze108 : zeroOf Tryd.prog 108 = some .nilIface := by kernel_rfl
theorem sh111 : shapeOf Tryd.prog 111 = some (false, 1) := by kernel_rfl
theorem ze111 : zeroOf Tryd.prog 111 = some .nilIface := by kernel_rfl
theorem sh112 : shapeOf Tryd.prog 112 = some (false, 1) := by kernel_rfl
theorem ze112 : zeroOf Tryd.prog 112 = some .nilIface := by kernel_rfl
theorem sh113 : shapeOf Tryd.prog 113 = some (false, 1) := by kernel_rfl
theorem ze113 : zeroOf Tryd.prog 113 = some (.slice none 0 0) := by kernel_rfl
theorem el113 : elemOf' Tryd.prog 113 = some (25, 1, 16, .nilIface) := by kernel_rfl
theorem sh116 : shapeOf Tryd.prog 116 = some (false, 1) := by kernel_rfl
theorem ze116 : zeroOf Tryd.prog 116 = some (.int .i64 0) := by kernel_rfl
theorem sh125 : shapeOf Tryd.prog 125 = some (false, 1) := by kernel_rfl
theorem ze125 : zeroOf Tryd.prog 125 = some (.int .u64 0) := by kernel_rfl
theorem sh129 : shapeOf Tryd.prog 129 = some (false, 1) := by kernel_rfl
theorem ze129 : zeroOf Tryd.prog 129 = some (.pointer none) := by kernel_rfl
theorem sh131 : shapeOf Tryd.prog 131 = some (false, 1) := by kernel_rfl
theorem ze131 : zeroOf Tryd.prog 131 = some (.pointer none) := by kernel_rfl
theorem sh135 : shapeOf Tryd.prog 135 = some (true, 4) := by kernel_rfl
theorem ze135 : zeroOf Tryd.prog 135 = some (.agg #[.pointer none, .pointer none, .pointer none, .string { data := #[] }]) := by kernel_rfl
theorem fo135_0 : fieldOff Tryd.prog 135 0 = some 0 := by kernel_rfl
theorem fo135_1 : fieldOff Tryd.prog 135 1 = some 1 := by kernel_rfl
theorem fo135_2 : fieldOff Tryd.prog 135 2 = some 2 := by kernel_rfl
theorem fo135_3 : fieldOff Tryd.prog 135 3 = some 3 := by kernel_rfl
theorem sh136 : shapeOf Tryd.prog 136 = some (true, 4) := by kernel_rfl
theorem ze136 : zeroOf Tryd.prog 136 = some (.agg #[.pointer none, .pointer none, .pointer none, .string { data := #[] }]) := by kernel_rfl
theorem fo136_0 : fieldOff Tryd.prog 136 0 = some 0 := by kernel_rfl
theorem fo136_1 : fieldOff Tryd.prog 136 1 = some 1 := by kernel_rfl
theorem fo136_2 : fieldOff Tryd.prog 136 2 = some 2 := by kernel_rfl
theorem fo136_3 : fieldOff Tryd.prog 136 3 = some 3 := by kernel_rfl
theorem sh137 : shapeOf Tryd.prog 137 = some (true, 0) := by kernel_rfl
theorem ze137 : zeroOf Tryd.prog 137 = some (.agg #[]) := by kernel_rfl
theorem sh138 : shapeOf Tryd.prog 138 = some (true, 0) := by kernel_rfl
theorem ze138 : zeroOf Tryd.prog 138 = some (.agg #[]) := by kernel_rfl
theorem sh139 : shapeOf Tryd.prog 139 = some (true, 0) := by kernel_rfl
theorem ze139 : zeroOf Tryd.prog 139 = some (.agg #[]) := by kernel_rfl
theorem sh141 : shapeOf Tryd.prog 141 = some (false, 1) := by kernel_rfl
theorem ze141 : zeroOf Tryd.prog 141 = some (.int .u8 0) := by kernel_rfl
theorem sh143 : shapeOf Tryd.prog 143 = some (false, 1) := by kernel_rfl
theorem ze143 : zeroOf Tryd.prog 143 = some (.pointer none) := by kernel_rfl
theorem sh144 : shapeOf Tryd.prog 144 = some (false, 1) := by kernel_rfl
theorem ze144 : zeroOf Tryd.prog 144 = some (.int .i32 0) := by kernel_rfl
theorem sh145 : shapeOf Tryd.prog 145 = some (false, 1) := by kernel_rfl
theorem ze145 : zeroOf Tryd.prog 145 = some (.int .i32 0) := by kernel_rfl
theorem sh146 : shapeOf Tryd.prog 146 = some (true, 11) := by kernel_rfl
theorem ze146 : zeroOf Tryd.prog 146 = some (.agg #[.int .u64 0, .int .u64 0, .int .u32 0, .int .u8 0, .int .u8 0, .int .u8 0, .int .u8 0, .nilFunc, .pointer none, .int .i32 0, .int .i32 0]) := by kernel_rfl
theorem fo146_0 : fieldOff Tryd.prog 146 0 = some 0 := by kernel_rfl
theorem fo146_1 : fieldOff Tryd.prog 146 1 = some 1 := by kernel_rfl
theorem fo146_2 : fieldOff Tryd.prog 146 2 = some 2 := by kernel_rfl
theorem fo146_3 : fieldOff Tryd.prog 146 3 = some 3 := by kernel_rfl
theorem fo146_4 : fieldOff Tryd.prog 146 4 = some 4 := by kernel_rfl
theorem fo146_5 : fieldOff Tryd.prog 146 5 = some 5 := by kernel_rfl
theorem fo146_6 : fieldOff Tryd.prog 146 6 = some 6 := by kernel_rfl
theorem fo146_7 : fieldOff Tryd.prog 146 7 = some 7 := by kernel_rfl
theorem fo146_8 : fieldOff Tryd.prog 146 8 = some 8 := by kernel_rfl
theorem fo146_9 : fieldOff Tryd.prog 146 9 = some 9 := by kernel_rfl
theorem fo146_10 : fieldOff Tryd.prog 146 10 = some 10 := by kernel_rfl
theorem sh147 : shapeOf Tryd.prog 147 = some (true, 11) := by kernel_rfl
theorem ze147 : zeroOf Tryd.prog 147 = some (.agg #[.int .u64 0, .int .u64 0, .int .u32 0, .int .u8 0, .int .u8 0, .int .u8 0, .int .u8 0, .nilFunc, .pointer none, .int .i32 0, .int .i32 0]) := by kernel_rfl
theorem fo147_0 : fieldOff Tryd.prog 147 0 = some 0 := by kernel_rfl
theorem fo147_1 : fieldOff Tryd.prog 147 1 = some 1 := by kernel_rfl
theorem fo147_2 : fieldOff Tryd.prog 147 2 = some 2 := by kernel_rfl
theorem fo147_3 : fieldOff Tryd.prog 147 3 = some 3 := by kernel_rfl
theorem fo147_4 : fieldOff Tryd.prog 147 4 = some 4 := by kernel_rfl
theorem fo147_5 : fieldOff Tryd.prog 147 5 = some 5 := by kernel_rfl
theorem fo147_6 : fieldOff Tryd.prog 147 6 = some 6 := by kernel_rfl
theorem fo147_7 : fieldOff Tryd.prog 147 7 = some 7 := by kernel_rfl
theorem fo147_8 : fieldOff Tryd.prog 147 8 = some 8 := by kernel_rfl
theorem fo147_9 : fieldOff Tryd.prog 147 9 = some 9 := by kernel_rfl
theorem fo147_10 : fieldOff Tryd.prog 147 10 = some 10 := by kernel_rfl
theorem sh150 : shapeOf Tryd.prog 150 = some (true, 2) := by kernel_rfl
theorem ze150 : zeroOf Tryd.prog 150 = some (.agg #[.string { data := #[] }, .int .u8 0]) := by kernel_rfl
theorem fo150_0 : fieldOff Tryd.prog 150 0 = some 0 := by kernel_rfl
theorem fo150_1 : fieldOff Tryd.prog 150 1 = some 1 := by kernel_rfl
theorem sh151 : shapeOf Tryd.prog 151 = some (true, 2) := by kernel_rfl
theorem ze151 : zeroOf Tryd.prog 151 = some (.agg #[.string { data := #[] }, .int .u8 0]) := by kernel_rfl
theorem fo151_0 : fieldOff Tryd.prog 151 0 = some 0 := by kernel_rfl
theorem fo151_1 : fieldOff Tryd.prog 151 1 = some 1 := by kernel_rfl
theorem sh152 : shapeOf Tryd.prog 152 = some (false, 1) := by kernel_rfl
theorem ze152 : zeroOf Tryd.prog 152 = some (.pointer none) := by kernel_rfl
theorem sh154 : shapeOf Tryd.prog 154 = some (false, 1) := by kernel_rfl
theorem ze154 : zeroOf Tryd.prog 154 = some (.int .u16 0) := by kernel_rfl
theorem sh155 : shapeOf Tryd.prog 155 = some (true, 5) := by kernel_rfl
theorem ze155 : zeroOf Tryd.prog 155 = some (.agg #[.int .i32 0, .int .u16 0, .int .u16 0, .int .u32 0, .int .u32 0]) := by kernel_rfl
theorem fo155_0 : fieldOff Tryd.prog 155 0 = some 0 := by kernel_rfl
theorem fo155_1 : fieldOff Tryd.prog 155 1 = some 1 := by kernel_rfl
theorem fo155_2 : fieldOff Tryd.prog 155 2 = some 2 := by kernel_rfl
theorem fo155_3 : fieldOff Tryd.prog 155 3 = some 3 := by kernel_rfl
theorem fo155_4 : fieldOff Tryd.prog 155 4 = some 4 := by kernel_rfl
theorem sh156 : shapeOf Tryd.prog 156 = some (true, 5) := by kernel_rfl
theorem ze156 : zeroOf Tryd.prog 156 = some (.agg #[.int .i32 0, .int .u16 0, .int .u16 0, .int .u32 0, .int .u32 0]) := by kernel_rfl
theorem fo156_0 : fieldOff Tryd.prog 156 0 = some 0 := by kernel_rfl
theorem fo156_1 : fieldOff Tryd.prog 156 1 = some 1 := by kernel_rfl
theorem fo156_2 : fieldOff Tryd.prog 156 2 = some 2 := by kernel_rfl
theorem fo156_3 : fieldOff Tryd.prog 156 3 = some 3 := by kernel_rfl
theorem fo156_4 : fieldOff Tryd.prog 156 4 = some 4 := by kernel_rfl
theorem sh157 : shapeOf Tryd.prog 157 = some (false, 1) := by kernel_rfl
theorem ze157 : zeroOf Tryd.prog 157 = some (.slice none 0 0) := by kernel_rfl
theorem el157 : elemOf' Tryd.prog 157 = some (160, 4, 16, (.agg #[.int .i32 0, .int .i32 0, .int .i32 0, .int .i32 0])) := by kernel_rfl
theorem sh158 : shapeOf Tryd.prog 158 = some (false, 1) := by kernel_rfl
theorem ze158 : zeroOf Tryd.prog 158 = some (.int .i32 0) := by kernel_rfl
theorem sh159 : shapeOf Tryd.prog 159 = some (true, 4) := by kernel_rfl
theorem ze159 : zeroOf Tryd.prog 159 = some (.agg #[.int .i32 0, .int .i32 0, .int .i32 0, .int .i32 0]) := by kernel_rfl
theorem fo159_0 : fieldOff Tryd.prog 159 0 = some 0 := by kernel_rfl
theorem fo159_1 : fieldOff Tryd.prog 159 1 = some 1 := by kernel_rfl
theorem fo159_2 : fieldOff Tryd.prog 159 2 = some 2 := by kernel_rfl
theorem fo159_3 : fieldOff Tryd.prog 159 3 = some 3 := by kernel_rfl
theorem sh160 : shapeOf Tryd.prog 160 = some (true, 4) := by kernel_rfl
theorem ze160 : zeroOf Tryd.prog 160 = some (.agg #[.int .i32 0, .int .i32 0, .int .i32 0, .int .i32 0]) := by kernel_rfl
theorem fo160_0 : fieldOff Tryd.prog 160 0 = some 0 := by kernel_rfl
theorem fo160_1 : fieldOff Tryd.prog 160 1 = some 1 := by kernel_rfl
theorem fo160_2 : fieldOff Tryd.prog 160 2 = some 2 := by kernel_rfl
theorem fo160_3 : fieldOff Tryd.prog 160 3 = some 3 := by kernel_rfl
theorem sh161 : shapeOf Tryd.prog 161 = some (false, 1) := by kernel_rfl
theorem ze161 : zeroOf Tryd.prog 161 = some (.pointer none) := by kernel_rfl
end Go.Proofs.YtfgbplbohekghaaDoor
