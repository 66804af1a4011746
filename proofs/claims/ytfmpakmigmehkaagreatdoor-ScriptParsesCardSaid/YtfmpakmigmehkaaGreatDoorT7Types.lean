import Derived.Test.YtfmpakmigmehkaaGreatDoorFl20
import Derived.Test.YtfmpakmigmehkaaGreatDoorProg
set_option linter.unusedVariables false
set_option linter.unusedSimpArgs false
namespace Go.Proofs.YtfmpakmigmehkaaGreatDoor
open Go Go.Fl Go.Proofs
theorem mixed : Tryz.prog.follows .mixedOrders = true := by kernel_rfl
@[go_sem] theorem tS0 : csz Tryz.prog 0 = some 1 := by kernel_rfl
@[go_sem] theorem tB0 : byt Tryz.prog 0 = some 0 := by kernel_rfl
@[go_sem] theorem tA0 : isAggT Tryz.prog 0 = some false := by kernel_rfl
@[go_sem] theorem tS1 : csz Tryz.prog 1 = some 1 := by kernel_rfl
@[go_sem] theorem tB1 : byt Tryz.prog 1 = some 8 := by kernel_rfl
@[go_sem] theorem tA1 : isAggT Tryz.prog 1 = some false := by kernel_rfl
@[go_sem] theorem tZ1 : zeroC Tryz.prog 1 = some [.sc (.nilFunc)] := by kernel_rfl
@[go_sem] theorem tS2 : csz Tryz.prog 2 = some 1 := by kernel_rfl
@[go_sem] theorem tB2 : byt Tryz.prog 2 = some 8 := by kernel_rfl
@[go_sem] theorem tA2 : isAggT Tryz.prog 2 = some false := by kernel_rfl
@[go_sem] theorem tU2 : Tryz.prog.underlying 2 = some (.int .i64) := by kernel_rfl
@[go_sem] theorem tZ2 : zeroC Tryz.prog 2 = some [.sc (.int .i64 0)] := by kernel_rfl
@[go_sem] theorem tS3 : csz Tryz.prog 3 = some 1 := by kernel_rfl
@[go_sem] theorem tB3 : byt Tryz.prog 3 = some 8 := by kernel_rfl
@[go_sem] theorem tA3 : isAggT Tryz.prog 3 = some false := by kernel_rfl
@[go_sem] theorem tU3 : Tryz.prog.underlying 3 = some (.int .i64) := by kernel_rfl
@[go_sem] theorem tZ3 : zeroC Tryz.prog 3 = some [.sc (.int .i64 0)] := by kernel_rfl
@[go_sem] theorem tS4 : csz Tryz.prog 4 = some 1 := by kernel_rfl
@[go_sem] theorem tB4 : byt Tryz.prog 4 = some 1 := by kernel_rfl
@[go_sem] theorem tA4 : isAggT Tryz.prog 4 = some false := by kernel_rfl
@[go_sem] theorem tZ4 : zeroC Tryz.prog 4 = some [.sc (.bool false)] := by kernel_rfl
@[go_sem] theorem tS5 : csz Tryz.prog 5 = some 1 := by kernel_rfl
@[go_sem] theorem tB5 : byt Tryz.prog 5 = some 1 := by kernel_rfl
@[go_sem] theorem tA5 : isAggT Tryz.prog 5 = some false := by kernel_rfl
@[go_sem] theorem tU5 : Tryz.prog.underlying 5 = some (.int .u8) := by kernel_rfl
@[go_sem] theorem tZ5 : zeroC Tryz.prog 5 = some [.sc (.int .u8 0)] := by kernel_rfl
@[go_sem] theorem tS6 : csz Tryz.prog 6 = some 1 := by kernel_rfl
@[go_sem] theorem tB6 : byt Tryz.prog 6 = some 1 := by kernel_rfl
@[go_sem] theorem tA6 : isAggT Tryz.prog 6 = some false := by kernel_rfl
@[go_sem] theorem tU6 : Tryz.prog.underlying 6 = some (.int .u8) := by kernel_rfl
@[go_sem] theorem tZ6 : zeroC Tryz.prog 6 = some [.sc (.int .u8 0)] := by kernel_rfl
@[go_sem] theorem tS7 : csz Tryz.prog 7 = some 4 := by kernel_rfl
@[go_sem] theorem tB7 : byt Tryz.prog 7 = some 24 := by kernel_rfl
@[go_sem] theorem tA7 : isAggT Tryz.prog 7 = some true := by kernel_rfl
@[go_sem] theorem tP7 : placesOf Tryz.prog 7 = some [(0, 1), (1, 1), (2, 1), (3, 1)] := by kernel_rfl
@[go_sem] theorem tZ7 : zeroC Tryz.prog 7 = some [.sc (.int .i64 0), .sc (.int .i64 0), .sc (.bool false), .sc (.int .u8 0)] := by kernel_rfl
@[go_sem] theorem tS8 : csz Tryz.prog 8 = some 4 := by kernel_rfl
@[go_sem] theorem tB8 : byt Tryz.prog 8 = some 24 := by kernel_rfl
@[go_sem] theorem tA8 : isAggT Tryz.prog 8 = some true := by kernel_rfl
@[go_sem] theorem tP8 : placesOf Tryz.prog 8 = some [(0, 1), (1, 1), (2, 1), (3, 1)] := by kernel_rfl
@[go_sem] theorem tZ8 : zeroC Tryz.prog 8 = some [.sc (.int .i64 0), .sc (.int .i64 0), .sc (.bool false), .sc (.int .u8 0)] := by kernel_rfl
@[go_sem] theorem tS9 : csz Tryz.prog 9 = some 1 := by kernel_rfl
@[go_sem] theorem tB9 : byt Tryz.prog 9 = some 16 := by kernel_rfl
@[go_sem] theorem tA9 : isAggT Tryz.prog 9 = some false := by kernel_rfl
@[go_sem] theorem tU9 : Tryz.prog.underlying 9 = some .string := by kernel_rfl
@[go_sem] theorem tZ9 : zeroC Tryz.prog 9 = some [.sc (.string ByteArray.empty)] := by kernel_rfl
@[go_sem] theorem tS10 : csz Tryz.prog 10 = some 1 := by kernel_rfl
@[go_sem] theorem tB10 : byt Tryz.prog 10 = some 16 := by kernel_rfl
@[go_sem] theorem tA10 : isAggT Tryz.prog 10 = some false := by kernel_rfl
@[go_sem] theorem tU10 : Tryz.prog.underlying 10 = some .string := by kernel_rfl
@[go_sem] theorem tZ10 : zeroC Tryz.prog 10 = some [.sc (.string ByteArray.empty)] := by kernel_rfl
@[go_sem] theorem tS11 : csz Tryz.prog 11 = some 1 := by kernel_rfl
@[go_sem] theorem tB11 : byt Tryz.prog 11 = some 16 := by kernel_rfl
@[go_sem] theorem tA11 : isAggT Tryz.prog 11 = some false := by kernel_rfl
@[go_sem] theorem tU11 : Tryz.prog.underlying 11 = some .string := by kernel_rfl
@[go_sem] theorem tZ11 : zeroC Tryz.prog 11 = some [.sc (.string ByteArray.empty)] := by kernel_rfl
@[go_sem] theorem tS12 : csz Tryz.prog 12 = some 1 := by kernel_rfl
@[go_sem] theorem tB12 : byt Tryz.prog 12 = some 8 := by kernel_rfl
@[go_sem] theorem tA12 : isAggT Tryz.prog 12 = some false := by kernel_rfl
@[go_sem] theorem tU12 : Tryz.prog.underlying 12 = some (.int .u64) := by kernel_rfl
@[go_sem] theorem tZ12 : zeroC Tryz.prog 12 = some [.sc (.int .u64 0)] := by kernel_rfl
@[go_sem] theorem tS13 : csz Tryz.prog 13 = some 2 := by kernel_rfl
@[go_sem] theorem tB13 : byt Tryz.prog 13 = some 24 := by kernel_rfl
@[go_sem] theorem tA13 : isAggT Tryz.prog 13 = some true := by kernel_rfl
@[go_sem] theorem tP13 : placesOf Tryz.prog 13 = some [(0, 1), (1, 1)] := by kernel_rfl
@[go_sem] theorem tZ13 : zeroC Tryz.prog 13 = some [.sc (.string ByteArray.empty), .sc (.int .u64 0)] := by kernel_rfl
@[go_sem] theorem tS14 : csz Tryz.prog 14 = some 2 := by kernel_rfl
@[go_sem] theorem tB14 : byt Tryz.prog 14 = some 24 := by kernel_rfl
@[go_sem] theorem tA14 : isAggT Tryz.prog 14 = some true := by kernel_rfl
@[go_sem] theorem tP14 : placesOf Tryz.prog 14 = some [(0, 1), (1, 1)] := by kernel_rfl
@[go_sem] theorem tZ14 : zeroC Tryz.prog 14 = some [.sc (.string ByteArray.empty), .sc (.int .u64 0)] := by kernel_rfl
@[go_sem] theorem tS15 : csz Tryz.prog 15 = some 1 := by kernel_rfl
@[go_sem] theorem tB15 : byt Tryz.prog 15 = some 8 := by kernel_rfl
@[go_sem] theorem tA15 : isAggT Tryz.prog 15 = some false := by kernel_rfl
@[go_sem] theorem tU15 : Tryz.prog.underlying 15 = some (.pointer 190) := by kernel_rfl
@[go_sem] theorem tZ15 : zeroC Tryz.prog 15 = some [.sc (.pointer none)] := by kernel_rfl
@[go_sem] theorem tS16 : csz Tryz.prog 16 = some 1 := by kernel_rfl
@[go_sem] theorem tB16 : byt Tryz.prog 16 = some 8 := by kernel_rfl
@[go_sem] theorem tA16 : isAggT Tryz.prog 16 = some false := by kernel_rfl
@[go_sem] theorem tU16 : Tryz.prog.underlying 16 = some (.pointer 193) := by kernel_rfl
@[go_sem] theorem tZ16 : zeroC Tryz.prog 16 = some [.sc (.pointer none)] := by kernel_rfl
@[go_sem] theorem tS17 : csz Tryz.prog 17 = some 1 := by kernel_rfl
@[go_sem] theorem tB17 : byt Tryz.prog 17 = some 8 := by kernel_rfl
@[go_sem] theorem tA17 : isAggT Tryz.prog 17 = some false := by kernel_rfl
@[go_sem] theorem tU17 : Tryz.prog.underlying 17 = some (.pointer 200) := by kernel_rfl
@[go_sem] theorem tZ17 : zeroC Tryz.prog 17 = some [.sc (.pointer none)] := by kernel_rfl
@[go_sem] theorem tS18 : csz Tryz.prog 18 = some 1 := by kernel_rfl
@[go_sem] theorem tB18 : byt Tryz.prog 18 = some 8 := by kernel_rfl
@[go_sem] theorem tA18 : isAggT Tryz.prog 18 = some true := by kernel_rfl
@[go_sem] theorem tP18 : placesOf Tryz.prog 18 = some [(0, 1)] := by kernel_rfl
@[go_sem] theorem tZ18 : zeroC Tryz.prog 18 = some [.sc (.pointer none)] := by kernel_rfl
@[go_sem] theorem tS19 : csz Tryz.prog 19 = some 1 := by kernel_rfl
@[go_sem] theorem tB19 : byt Tryz.prog 19 = some 8 := by kernel_rfl
@[go_sem] theorem tA19 : isAggT Tryz.prog 19 = some true := by kernel_rfl
@[go_sem] theorem tP19 : placesOf Tryz.prog 19 = some [(0, 1)] := by kernel_rfl
@[go_sem] theorem tZ19 : zeroC Tryz.prog 19 = some [.sc (.pointer none)] := by kernel_rfl
@[go_sem] theorem tS20 : csz Tryz.prog 20 = some 1 := by kernel_rfl
@[go_sem] theorem tB20 : byt Tryz.prog 20 = some 16 := by kernel_rfl
@[go_sem] theorem tA20 : isAggT Tryz.prog 20 = some false := by kernel_rfl
@[go_sem] theorem tZ20 : zeroC Tryz.prog 20 = some [.sc (.nilIface)] := by kernel_rfl
@[go_sem] theorem tS21 : csz Tryz.prog 21 = some 1 := by kernel_rfl
@[go_sem] theorem tB21 : byt Tryz.prog 21 = some 4 := by kernel_rfl
@[go_sem] theorem tA21 : isAggT Tryz.prog 21 = some false := by kernel_rfl
@[go_sem] theorem tU21 : Tryz.prog.underlying 21 = some (.int .i32) := by kernel_rfl
@[go_sem] theorem tZ21 : zeroC Tryz.prog 21 = some [.sc (.int .i32 0)] := by kernel_rfl
@[go_sem] theorem tS22 : csz Tryz.prog 22 = some 1 := by kernel_rfl
@[go_sem] theorem tB22 : byt Tryz.prog 22 = some 8 := by kernel_rfl
@[go_sem] theorem tA22 : isAggT Tryz.prog 22 = some false := by kernel_rfl
@[go_sem] theorem tZ22 : zeroC Tryz.prog 22 = some [.sc (.nilFunc)] := by kernel_rfl
@[go_sem] theorem tS23 : csz Tryz.prog 23 = some 1 := by kernel_rfl
@[go_sem] theorem tB23 : byt Tryz.prog 23 = some 4 := by kernel_rfl
@[go_sem] theorem tA23 : isAggT Tryz.prog 23 = some false := by kernel_rfl
@[go_sem] theorem tU23 : Tryz.prog.underlying 23 = some (.int .u32) := by kernel_rfl
@[go_sem] theorem tZ23 : zeroC Tryz.prog 23 = some [.sc (.int .u32 0)] := by kernel_rfl
@[go_sem] theorem tS24 : csz Tryz.prog 24 = some 18 := by kernel_rfl
@[go_sem] theorem tB24 : byt Tryz.prog 24 = some 112 := by kernel_rfl
@[go_sem] theorem tA24 : isAggT Tryz.prog 24 = some true := by kernel_rfl
@[go_sem] theorem tP24 : placesOf Tryz.prog 24 = some [(0, 1), (1, 1), (2, 1), (3, 1), (4, 1), (5, 1), (6, 1), (7, 1), (8, 1), (9, 1), (10, 1), (11, 1), (12, 1), (13, 1), (14, 1), (15, 1), (16, 1), (17, 1)] := by kernel_rfl
@[go_sem] theorem tZ24 : zeroC Tryz.prog 24 = some [.sc (.bool false), .sc (.string ByteArray.empty), .sc (.string ByteArray.empty), .sc (.int .i64 0), .sc (.bool false), .sc (.bool false), .sc (.int .u32 0), .sc (.int .i64 0), .sc (.bool false), .sc (.int .i64 0), .sc (.bool false), .sc (.bool false), .sc (.bool false), .sc (.bool false), .sc (.bool false), .sc (.int .i64 0), .sc (.int .i64 0), .sc (.int .i64 0)] := by kernel_rfl
@[go_sem] theorem tS25 : csz Tryz.prog 25 = some 18 := by kernel_rfl
@[go_sem] theorem tB25 : byt Tryz.prog 25 = some 112 := by kernel_rfl
@[go_sem] theorem tA25 : isAggT Tryz.prog 25 = some true := by kernel_rfl
@[go_sem] theorem tP25 : placesOf Tryz.prog 25 = some [(0, 1), (1, 1), (2, 1), (3, 1), (4, 1), (5, 1), (6, 1), (7, 1), (8, 1), (9, 1), (10, 1), (11, 1), (12, 1), (13, 1), (14, 1), (15, 1), (16, 1), (17, 1)] := by kernel_rfl
@[go_sem] theorem tZ25 : zeroC Tryz.prog 25 = some [.sc (.bool false), .sc (.string ByteArray.empty), .sc (.string ByteArray.empty), .sc (.int .i64 0), .sc (.bool false), .sc (.bool false), .sc (.int .u32 0), .sc (.int .i64 0), .sc (.bool false), .sc (.int .i64 0), .sc (.bool false), .sc (.bool false), .sc (.bool false), .sc (.bool false), .sc (.bool false), .sc (.int .i64 0), .sc (.int .i64 0), .sc (.int .i64 0)] := by kernel_rfl
@[go_sem] theorem tS26 : csz Tryz.prog 26 = some 1 := by kernel_rfl
@[go_sem] theorem tB26 : byt Tryz.prog 26 = some 24 := by kernel_rfl
@[go_sem] theorem tA26 : isAggT Tryz.prog 26 = some false := by kernel_rfl
@[go_sem] theorem tU26 : Tryz.prog.underlying 26 = some (.slice 53) := by kernel_rfl
@[go_sem] theorem tZ26 : zeroC Tryz.prog 26 = some [.sc (.slice none 0 0)] := by kernel_rfl
@[go_sem] theorem tS27 : csz Tryz.prog 27 = some 1 := by kernel_rfl
@[go_sem] theorem tB27 : byt Tryz.prog 27 = some 8 := by kernel_rfl
@[go_sem] theorem tA27 : isAggT Tryz.prog 27 = some false := by kernel_rfl
@[go_sem] theorem tU27 : Tryz.prog.underlying 27 = some (.int .i64) := by kernel_rfl
@[go_sem] theorem tZ27 : zeroC Tryz.prog 27 = some [.sc (.int .i64 0)] := by kernel_rfl
@[go_sem] theorem tS28 : csz Tryz.prog 28 = some 1 := by kernel_rfl
@[go_sem] theorem tB28 : byt Tryz.prog 28 = some 0 := by kernel_rfl
@[go_sem] theorem tA28 : isAggT Tryz.prog 28 = some false := by kernel_rfl
@[go_sem] theorem tS29 : csz Tryz.prog 29 = some 1 := by kernel_rfl
@[go_sem] theorem tB29 : byt Tryz.prog 29 = some 8 := by kernel_rfl
@[go_sem] theorem tA29 : isAggT Tryz.prog 29 = some false := by kernel_rfl
@[go_sem] theorem tZ29 : zeroC Tryz.prog 29 = some [.sc (.nilFunc)] := by kernel_rfl
@[go_sem] theorem tS30 : csz Tryz.prog 30 = some 1 := by kernel_rfl
@[go_sem] theorem tB30 : byt Tryz.prog 30 = some 24 := by kernel_rfl
@[go_sem] theorem tA30 : isAggT Tryz.prog 30 = some false := by kernel_rfl
@[go_sem] theorem tU30 : Tryz.prog.underlying 30 = some (.slice 44) := by kernel_rfl
@[go_sem] theorem tZ30 : zeroC Tryz.prog 30 = some [.sc (.slice none 0 0)] := by kernel_rfl
@[go_sem] theorem tS31 : csz Tryz.prog 31 = some 1 := by kernel_rfl
@[go_sem] theorem tB31 : byt Tryz.prog 31 = some 0 := by kernel_rfl
@[go_sem] theorem tA31 : isAggT Tryz.prog 31 = some false := by kernel_rfl
@[go_sem] theorem tS32 : csz Tryz.prog 32 = some 1 := by kernel_rfl
@[go_sem] theorem tB32 : byt Tryz.prog 32 = some 8 := by kernel_rfl
@[go_sem] theorem tA32 : isAggT Tryz.prog 32 = some false := by kernel_rfl
@[go_sem] theorem tZ32 : zeroC Tryz.prog 32 = some [.sc (.nilFunc)] := by kernel_rfl
@[go_sem] theorem tS33 : csz Tryz.prog 33 = some 1 := by kernel_rfl
@[go_sem] theorem tB33 : byt Tryz.prog 33 = some 8 := by kernel_rfl
@[go_sem] theorem tA33 : isAggT Tryz.prog 33 = some false := by kernel_rfl
@[go_sem] theorem tZ33 : zeroC Tryz.prog 33 = some [.sc (.nilFunc)] := by kernel_rfl
@[go_sem] theorem tS34 : csz Tryz.prog 34 = some 1 := by kernel_rfl
@[go_sem] theorem tB34 : byt Tryz.prog 34 = some 8 := by kernel_rfl
@[go_sem] theorem tA34 : isAggT Tryz.prog 34 = some false := by kernel_rfl
@[go_sem] theorem tZ34 : zeroC Tryz.prog 34 = some [.sc (.nilFunc)] := by kernel_rfl
@[go_sem] theorem tS35 : csz Tryz.prog 35 = some 1 := by kernel_rfl
@[go_sem] theorem tB35 : byt Tryz.prog 35 = some 8 := by kernel_rfl
@[go_sem] theorem tA35 : isAggT Tryz.prog 35 = some false := by kernel_rfl
@[go_sem] theorem tZ35 : zeroC Tryz.prog 35 = some [.sc (.nilFunc)] := by kernel_rfl
@[go_sem] theorem tS36 : csz Tryz.prog 36 = some 1 := by kernel_rfl
@[go_sem] theorem tB36 : byt Tryz.prog 36 = some 8 := by kernel_rfl
@[go_sem] theorem tA36 : isAggT Tryz.prog 36 = some false := by kernel_rfl
@[go_sem] theorem tZ36 : zeroC Tryz.prog 36 = some [.sc (.nilFunc)] := by kernel_rfl
@[go_sem] theorem tS37 : csz Tryz.prog 37 = some 1 := by kernel_rfl
@[go_sem] theorem tB37 : byt Tryz.prog 37 = some 0 := by kernel_rfl
@[go_sem] theorem tA37 : isAggT Tryz.prog 37 = some false := by kernel_rfl
@[go_sem] theorem tS38 : csz Tryz.prog 38 = some 1 := by kernel_rfl
@[go_sem] theorem tB38 : byt Tryz.prog 38 = some 8 := by kernel_rfl
@[go_sem] theorem tA38 : isAggT Tryz.prog 38 = some false := by kernel_rfl
@[go_sem] theorem tZ38 : zeroC Tryz.prog 38 = some [.sc (.nilFunc)] := by kernel_rfl
@[go_sem] theorem tS39 : csz Tryz.prog 39 = some 1 := by kernel_rfl
@[go_sem] theorem tB39 : byt Tryz.prog 39 = some 8 := by kernel_rfl
@[go_sem] theorem tA39 : isAggT Tryz.prog 39 = some false := by kernel_rfl
@[go_sem] theorem tZ39 : zeroC Tryz.prog 39 = some [.sc (.nilFunc)] := by kernel_rfl
@[go_sem] theorem tS40 : csz Tryz.prog 40 = some 1 := by kernel_rfl
@[go_sem] theorem tB40 : byt Tryz.prog 40 = some 0 := by kernel_rfl
@[go_sem] theorem tA40 : isAggT Tryz.prog 40 = some false := by kernel_rfl
@[go_sem] theorem tS41 : csz Tryz.prog 41 = some 1 := by kernel_rfl
@[go_sem] theorem tB41 : byt Tryz.prog 41 = some 8 := by kernel_rfl
@[go_sem] theorem tA41 : isAggT Tryz.prog 41 = some false := by kernel_rfl
@[go_sem] theorem tZ41 : zeroC Tryz.prog 41 = some [.sc (.nilFunc)] := by kernel_rfl
@[go_sem] theorem tS42 : csz Tryz.prog 42 = some 1 := by kernel_rfl
@[go_sem] theorem tB42 : byt Tryz.prog 42 = some 24 := by kernel_rfl
@[go_sem] theorem tA42 : isAggT Tryz.prog 42 = some false := by kernel_rfl
@[go_sem] theorem tU42 : Tryz.prog.underlying 42 = some (.slice 5) := by kernel_rfl
@[go_sem] theorem tZ42 : zeroC Tryz.prog 42 = some [.sc (.slice none 0 0)] := by kernel_rfl
@[go_sem] theorem tS43 : csz Tryz.prog 43 = some 5 := by kernel_rfl
@[go_sem] theorem tB43 : byt Tryz.prog 43 = some 56 := by kernel_rfl
@[go_sem] theorem tA43 : isAggT Tryz.prog 43 = some true := by kernel_rfl
@[go_sem] theorem tP43 : placesOf Tryz.prog 43 = some [(0, 1), (1, 1), (2, 1), (3, 1), (4, 1)] := by kernel_rfl
@[go_sem] theorem tZ43 : zeroC Tryz.prog 43 = some [.sc (.int .i64 0), .sc (.int .i64 0), .sc (.int .i64 0), .sc (.int .i64 0), .sc (.slice none 0 0)] := by kernel_rfl
@[go_sem] theorem tS44 : csz Tryz.prog 44 = some 5 := by kernel_rfl
@[go_sem] theorem tB44 : byt Tryz.prog 44 = some 56 := by kernel_rfl
@[go_sem] theorem tA44 : isAggT Tryz.prog 44 = some true := by kernel_rfl
@[go_sem] theorem tP44 : placesOf Tryz.prog 44 = some [(0, 1), (1, 1), (2, 1), (3, 1), (4, 1)] := by kernel_rfl
@[go_sem] theorem tZ44 : zeroC Tryz.prog 44 = some [.sc (.int .i64 0), .sc (.int .i64 0), .sc (.int .i64 0), .sc (.int .i64 0), .sc (.slice none 0 0)] := by kernel_rfl
@[go_sem] theorem tS45 : csz Tryz.prog 45 = some 1 := by kernel_rfl
@[go_sem] theorem tB45 : byt Tryz.prog 45 = some 8 := by kernel_rfl
@[go_sem] theorem tA45 : isAggT Tryz.prog 45 = some false := by kernel_rfl
@[go_sem] theorem tZ45 : zeroC Tryz.prog 45 = some [.sc (.nilFunc)] := by kernel_rfl
@[go_sem] theorem tS46 : csz Tryz.prog 46 = some 1 := by kernel_rfl
@[go_sem] theorem tB46 : byt Tryz.prog 46 = some 8 := by kernel_rfl
@[go_sem] theorem tA46 : isAggT Tryz.prog 46 = some false := by kernel_rfl
@[go_sem] theorem tZ46 : zeroC Tryz.prog 46 = some [.sc (.nilFunc)] := by kernel_rfl
@[go_sem] theorem tS47 : csz Tryz.prog 47 = some 1 := by kernel_rfl
@[go_sem] theorem tB47 : byt Tryz.prog 47 = some 2 := by kernel_rfl
@[go_sem] theorem tA47 : isAggT Tryz.prog 47 = some false := by kernel_rfl
@[go_sem] theorem tU47 : Tryz.prog.underlying 47 = some (.int .u16) := by kernel_rfl
@[go_sem] theorem tZ47 : zeroC Tryz.prog 47 = some [.sc (.int .u16 0)] := by kernel_rfl
@[go_sem] theorem tS48 : csz Tryz.prog 48 = some 1 := by kernel_rfl
@[go_sem] theorem tB48 : byt Tryz.prog 48 = some 0 := by kernel_rfl
@[go_sem] theorem tA48 : isAggT Tryz.prog 48 = some false := by kernel_rfl
@[go_sem] theorem tS49 : csz Tryz.prog 49 = some 1 := by kernel_rfl
@[go_sem] theorem tB49 : byt Tryz.prog 49 = some 8 := by kernel_rfl
@[go_sem] theorem tA49 : isAggT Tryz.prog 49 = some false := by kernel_rfl
@[go_sem] theorem tZ49 : zeroC Tryz.prog 49 = some [.sc (.nilFunc)] := by kernel_rfl
@[go_sem] theorem tS50 : csz Tryz.prog 50 = some 1 := by kernel_rfl
@[go_sem] theorem tB50 : byt Tryz.prog 50 = some 8 := by kernel_rfl
@[go_sem] theorem tA50 : isAggT Tryz.prog 50 = some false := by kernel_rfl
@[go_sem] theorem tU50 : Tryz.prog.underlying 50 = some (.int .u64) := by kernel_rfl
@[go_sem] theorem tZ50 : zeroC Tryz.prog 50 = some [.sc (.int .u64 0)] := by kernel_rfl
@[go_sem] theorem tS51 : csz Tryz.prog 51 = some 1 := by kernel_rfl
@[go_sem] theorem tB51 : byt Tryz.prog 51 = some 24 := by kernel_rfl
@[go_sem] theorem tA51 : isAggT Tryz.prog 51 = some false := by kernel_rfl
@[go_sem] theorem tU51 : Tryz.prog.underlying 51 = some (.slice 9) := by kernel_rfl
@[go_sem] theorem tZ51 : zeroC Tryz.prog 51 = some [.sc (.slice none 0 0)] := by kernel_rfl
@[go_sem] theorem tS52 : csz Tryz.prog 52 = some 1 := by kernel_rfl
@[go_sem] theorem tB52 : byt Tryz.prog 52 = some 8 := by kernel_rfl
@[go_sem] theorem tA52 : isAggT Tryz.prog 52 = some false := by kernel_rfl
@[go_sem] theorem tZ52 : zeroC Tryz.prog 52 = some [.sc (.nilFunc)] := by kernel_rfl
@[go_sem] theorem tS53 : csz Tryz.prog 53 = some 5 := by kernel_rfl
@[go_sem] theorem tB53 : byt Tryz.prog 53 = some 56 := by kernel_rfl
@[go_sem] theorem tA53 : isAggT Tryz.prog 53 = some true := by kernel_rfl
@[go_sem] theorem tP53 : placesOf Tryz.prog 53 = some [(0, 1), (1, 1), (2, 1), (3, 1), (4, 1)] := by kernel_rfl
@[go_sem] theorem tZ53 : zeroC Tryz.prog 53 = some [.sc (.int .i64 0), .sc (.int .i64 0), .sc (.int .i64 0), .sc (.int .i64 0), .sc (.slice none 0 0)] := by kernel_rfl
@[go_sem] theorem tS54 : csz Tryz.prog 54 = some 36 := by kernel_rfl
@[go_sem] theorem tB54 : byt Tryz.prog 54 = some 224 := by kernel_rfl
@[go_sem] theorem tA54 : isAggT Tryz.prog 54 = some true := by kernel_rfl
@[go_sem] theorem tZ54 : zeroC Tryz.prog 54 = some [.sc (.bool false), .sc (.string ByteArray.empty), .sc (.string ByteArray.empty), .sc (.int .i64 0), .sc (.bool false), .sc (.bool false), .sc (.int .u32 0), .sc (.int .i64 0), .sc (.bool false), .sc (.int .i64 0), .sc (.bool false), .sc (.bool false), .sc (.bool false), .sc (.bool false), .sc (.bool false), .sc (.int .i64 0), .sc (.int .i64 0), .sc (.int .i64 0), .sc (.bool false), .sc (.string ByteArray.empty), .sc (.string ByteArray.empty), .sc (.int .i64 0), .sc (.bool false), .sc (.bool false), .sc (.int .u32 0), .sc (.int .i64 0), .sc (.bool false), .sc (.int .i64 0), .sc (.bool false), .sc (.bool false), .sc (.bool false), .sc (.bool false), .sc (.bool false), .sc (.int .i64 0), .sc (.int .i64 0), .sc (.int .i64 0)] := by kernel_rfl
@[go_sem] theorem tS55 : csz Tryz.prog 55 = some 1 := by kernel_rfl
@[go_sem] theorem tB55 : byt Tryz.prog 55 = some 8 := by kernel_rfl
@[go_sem] theorem tA55 : isAggT Tryz.prog 55 = some false := by kernel_rfl
@[go_sem] theorem tZ55 : zeroC Tryz.prog 55 = some [.sc (.nilFunc)] := by kernel_rfl
@[go_sem] theorem tS56 : csz Tryz.prog 56 = some 1 := by kernel_rfl
@[go_sem] theorem tB56 : byt Tryz.prog 56 = some 16 := by kernel_rfl
@[go_sem] theorem tA56 : isAggT Tryz.prog 56 = some false := by kernel_rfl
@[go_sem] theorem tZ56 : zeroC Tryz.prog 56 = some [.sc (.nilIface)] := by kernel_rfl
@[go_sem] theorem tS57 : csz Tryz.prog 57 = some 1 := by kernel_rfl
@[go_sem] theorem tB57 : byt Tryz.prog 57 = some 16 := by kernel_rfl
@[go_sem] theorem tA57 : isAggT Tryz.prog 57 = some false := by kernel_rfl
@[go_sem] theorem tZ57 : zeroC Tryz.prog 57 = some [.sc (.nilIface)] := by kernel_rfl
@[go_sem] theorem tS58 : csz Tryz.prog 58 = some 1 := by kernel_rfl
@[go_sem] theorem tB58 : byt Tryz.prog 58 = some 0 := by kernel_rfl
@[go_sem] theorem tA58 : isAggT Tryz.prog 58 = some false := by kernel_rfl
@[go_sem] theorem tS59 : csz Tryz.prog 59 = some 1 := by kernel_rfl
@[go_sem] theorem tB59 : byt Tryz.prog 59 = some 8 := by kernel_rfl
@[go_sem] theorem tA59 : isAggT Tryz.prog 59 = some false := by kernel_rfl
@[go_sem] theorem tZ59 : zeroC Tryz.prog 59 = some [.sc (.nilFunc)] := by kernel_rfl
@[go_sem] theorem tS60 : csz Tryz.prog 60 = some 1 := by kernel_rfl
@[go_sem] theorem tB60 : byt Tryz.prog 60 = some 0 := by kernel_rfl
@[go_sem] theorem tA60 : isAggT Tryz.prog 60 = some false := by kernel_rfl
@[go_sem] theorem tS61 : csz Tryz.prog 61 = some 1 := by kernel_rfl
@[go_sem] theorem tB61 : byt Tryz.prog 61 = some 8 := by kernel_rfl
@[go_sem] theorem tA61 : isAggT Tryz.prog 61 = some false := by kernel_rfl
@[go_sem] theorem tZ61 : zeroC Tryz.prog 61 = some [.sc (.nilFunc)] := by kernel_rfl
@[go_sem] theorem tS62 : csz Tryz.prog 62 = some 1 := by kernel_rfl
@[go_sem] theorem tB62 : byt Tryz.prog 62 = some 8 := by kernel_rfl
@[go_sem] theorem tA62 : isAggT Tryz.prog 62 = some false := by kernel_rfl
@[go_sem] theorem tZ62 : zeroC Tryz.prog 62 = some [.sc (.nilFunc)] := by kernel_rfl
@[go_sem] theorem tS63 : csz Tryz.prog 63 = some 1 := by kernel_rfl
@[go_sem] theorem tB63 : byt Tryz.prog 63 = some 0 := by kernel_rfl
@[go_sem] theorem tA63 : isAggT Tryz.prog 63 = some false := by kernel_rfl
@[go_sem] theorem tS64 : csz Tryz.prog 64 = some 1 := by kernel_rfl
@[go_sem] theorem tB64 : byt Tryz.prog 64 = some 8 := by kernel_rfl
@[go_sem] theorem tA64 : isAggT Tryz.prog 64 = some false := by kernel_rfl
@[go_sem] theorem tZ64 : zeroC Tryz.prog 64 = some [.sc (.nilFunc)] := by kernel_rfl
@[go_sem] theorem tS65 : csz Tryz.prog 65 = some 1 := by kernel_rfl
@[go_sem] theorem tB65 : byt Tryz.prog 65 = some 24 := by kernel_rfl
@[go_sem] theorem tA65 : isAggT Tryz.prog 65 = some false := by kernel_rfl
@[go_sem] theorem tU65 : Tryz.prog.underlying 65 = some (.slice 25) := by kernel_rfl
@[go_sem] theorem tZ65 : zeroC Tryz.prog 65 = some [.sc (.slice none 0 0)] := by kernel_rfl
@[go_sem] theorem tS66 : csz Tryz.prog 66 = some 1 := by kernel_rfl
@[go_sem] theorem tB66 : byt Tryz.prog 66 = some 0 := by kernel_rfl
@[go_sem] theorem tA66 : isAggT Tryz.prog 66 = some false := by kernel_rfl
@[go_sem] theorem tS67 : csz Tryz.prog 67 = some 1 := by kernel_rfl
@[go_sem] theorem tB67 : byt Tryz.prog 67 = some 8 := by kernel_rfl
@[go_sem] theorem tA67 : isAggT Tryz.prog 67 = some false := by kernel_rfl
@[go_sem] theorem tZ67 : zeroC Tryz.prog 67 = some [.sc (.nilFunc)] := by kernel_rfl
@[go_sem] theorem tS68 : csz Tryz.prog 68 = some 1 := by kernel_rfl
@[go_sem] theorem tB68 : byt Tryz.prog 68 = some 0 := by kernel_rfl
@[go_sem] theorem tA68 : isAggT Tryz.prog 68 = some false := by kernel_rfl
@[go_sem] theorem tS69 : csz Tryz.prog 69 = some 1 := by kernel_rfl
@[go_sem] theorem tB69 : byt Tryz.prog 69 = some 8 := by kernel_rfl
@[go_sem] theorem tA69 : isAggT Tryz.prog 69 = some false := by kernel_rfl
@[go_sem] theorem tZ69 : zeroC Tryz.prog 69 = some [.sc (.nilFunc)] := by kernel_rfl
@[go_sem] theorem tS70 : csz Tryz.prog 70 = some 1 := by kernel_rfl
@[go_sem] theorem tB70 : byt Tryz.prog 70 = some 8 := by kernel_rfl
@[go_sem] theorem tA70 : isAggT Tryz.prog 70 = some false := by kernel_rfl
@[go_sem] theorem tZ70 : zeroC Tryz.prog 70 = some [.sc (.nilFunc)] := by kernel_rfl
@[go_sem] theorem tS71 : csz Tryz.prog 71 = some 1 := by kernel_rfl
@[go_sem] theorem tB71 : byt Tryz.prog 71 = some 8 := by kernel_rfl
@[go_sem] theorem tA71 : isAggT Tryz.prog 71 = some false := by kernel_rfl
@[go_sem] theorem tZ71 : zeroC Tryz.prog 71 = some [.sc (.nilFunc)] := by kernel_rfl
@[go_sem] theorem tS72 : csz Tryz.prog 72 = some 1 := by kernel_rfl
@[go_sem] theorem tB72 : byt Tryz.prog 72 = some 8 := by kernel_rfl
@[go_sem] theorem tA72 : isAggT Tryz.prog 72 = some false := by kernel_rfl
@[go_sem] theorem tZ72 : zeroC Tryz.prog 72 = some [.sc (.nilFunc)] := by kernel_rfl
@[go_sem] theorem tS73 : csz Tryz.prog 73 = some 1 := by kernel_rfl
@[go_sem] theorem tB73 : byt Tryz.prog 73 = some 8 := by kernel_rfl
@[go_sem] theorem tA73 : isAggT Tryz.prog 73 = some false := by kernel_rfl
@[go_sem] theorem tU73 : Tryz.prog.underlying 73 = some (.pointer 75) := by kernel_rfl
@[go_sem] theorem tZ73 : zeroC Tryz.prog 73 = some [.sc (.pointer none)] := by kernel_rfl
@[go_sem] theorem tS74 : csz Tryz.prog 74 = some 2 := by kernel_rfl
@[go_sem] theorem tB74 : byt Tryz.prog 74 = some 32 := by kernel_rfl
@[go_sem] theorem tA74 : isAggT Tryz.prog 74 = some true := by kernel_rfl
@[go_sem] theorem tP74 : placesOf Tryz.prog 74 = some [(0, 1), (1, 1)] := by kernel_rfl
@[go_sem] theorem tZ74 : zeroC Tryz.prog 74 = some [.sc (.pointer none), .sc (.slice none 0 0)] := by kernel_rfl
@[go_sem] theorem tS75 : csz Tryz.prog 75 = some 2 := by kernel_rfl
@[go_sem] theorem tB75 : byt Tryz.prog 75 = some 32 := by kernel_rfl
@[go_sem] theorem tA75 : isAggT Tryz.prog 75 = some true := by kernel_rfl
@[go_sem] theorem tP75 : placesOf Tryz.prog 75 = some [(0, 1), (1, 1)] := by kernel_rfl
@[go_sem] theorem tZ75 : zeroC Tryz.prog 75 = some [.sc (.pointer none), .sc (.slice none 0 0)] := by kernel_rfl
@[go_sem] theorem tS76 : csz Tryz.prog 76 = some 1 := by kernel_rfl
@[go_sem] theorem tB76 : byt Tryz.prog 76 = some 0 := by kernel_rfl
@[go_sem] theorem tA76 : isAggT Tryz.prog 76 = some false := by kernel_rfl
@[go_sem] theorem tS77 : csz Tryz.prog 77 = some 1 := by kernel_rfl
@[go_sem] theorem tB77 : byt Tryz.prog 77 = some 8 := by kernel_rfl
@[go_sem] theorem tA77 : isAggT Tryz.prog 77 = some false := by kernel_rfl
@[go_sem] theorem tZ77 : zeroC Tryz.prog 77 = some [.sc (.nilFunc)] := by kernel_rfl
@[go_sem] theorem tS78 : csz Tryz.prog 78 = some 1 := by kernel_rfl
@[go_sem] theorem tB78 : byt Tryz.prog 78 = some 8 := by kernel_rfl
@[go_sem] theorem tA78 : isAggT Tryz.prog 78 = some false := by kernel_rfl
@[go_sem] theorem tZ78 : zeroC Tryz.prog 78 = some [.sc (.nilFunc)] := by kernel_rfl
@[go_sem] theorem tS79 : csz Tryz.prog 79 = some 1 := by kernel_rfl
@[go_sem] theorem tB79 : byt Tryz.prog 79 = some 8 := by kernel_rfl
@[go_sem] theorem tA79 : isAggT Tryz.prog 79 = some false := by kernel_rfl
@[go_sem] theorem tZ79 : zeroC Tryz.prog 79 = some [.sc (.nilFunc)] := by kernel_rfl
@[go_sem] theorem tS80 : csz Tryz.prog 80 = some 1 := by kernel_rfl
@[go_sem] theorem tB80 : byt Tryz.prog 80 = some 8 := by kernel_rfl
@[go_sem] theorem tA80 : isAggT Tryz.prog 80 = some false := by kernel_rfl
@[go_sem] theorem tZ80 : zeroC Tryz.prog 80 = some [.sc (.nilFunc)] := by kernel_rfl
@[go_sem] theorem tS81 : csz Tryz.prog 81 = some 1 := by kernel_rfl
@[go_sem] theorem tB81 : byt Tryz.prog 81 = some 8 := by kernel_rfl
@[go_sem] theorem tA81 : isAggT Tryz.prog 81 = some false := by kernel_rfl
@[go_sem] theorem tZ81 : zeroC Tryz.prog 81 = some [.sc (.nilFunc)] := by kernel_rfl
@[go_sem] theorem tS82 : csz Tryz.prog 82 = some 1 := by kernel_rfl
@[go_sem] theorem tB82 : byt Tryz.prog 82 = some 8 := by kernel_rfl
@[go_sem] theorem tA82 : isAggT Tryz.prog 82 = some false := by kernel_rfl
@[go_sem] theorem tZ82 : zeroC Tryz.prog 82 = some [.sc (.nilFunc)] := by kernel_rfl
@[go_sem] theorem tS83 : csz Tryz.prog 83 = some 1 := by kernel_rfl
@[go_sem] theorem tB83 : byt Tryz.prog 83 = some 0 := by kernel_rfl
@[go_sem] theorem tA83 : isAggT Tryz.prog 83 = some false := by kernel_rfl
@[go_sem] theorem tS84 : csz Tryz.prog 84 = some 1 := by kernel_rfl
@[go_sem] theorem tB84 : byt Tryz.prog 84 = some 8 := by kernel_rfl
@[go_sem] theorem tA84 : isAggT Tryz.prog 84 = some false := by kernel_rfl
@[go_sem] theorem tZ84 : zeroC Tryz.prog 84 = some [.sc (.nilFunc)] := by kernel_rfl
@[go_sem] theorem tS85 : csz Tryz.prog 85 = some 1 := by kernel_rfl
@[go_sem] theorem tB85 : byt Tryz.prog 85 = some 8 := by kernel_rfl
@[go_sem] theorem tA85 : isAggT Tryz.prog 85 = some false := by kernel_rfl
@[go_sem] theorem tZ85 : zeroC Tryz.prog 85 = some [.sc (.nilFunc)] := by kernel_rfl
@[go_sem] theorem tS86 : csz Tryz.prog 86 = some 1 := by kernel_rfl
@[go_sem] theorem tB86 : byt Tryz.prog 86 = some 8 := by kernel_rfl
@[go_sem] theorem tA86 : isAggT Tryz.prog 86 = some false := by kernel_rfl
@[go_sem] theorem tZ86 : zeroC Tryz.prog 86 = some [.sc (.nilFunc)] := by kernel_rfl
@[go_sem] theorem tS87 : csz Tryz.prog 87 = some 1 := by kernel_rfl
@[go_sem] theorem tB87 : byt Tryz.prog 87 = some 8 := by kernel_rfl
@[go_sem] theorem tA87 : isAggT Tryz.prog 87 = some false := by kernel_rfl
@[go_sem] theorem tZ87 : zeroC Tryz.prog 87 = some [.sc (.nilFunc)] := by kernel_rfl
@[go_sem] theorem tS88 : csz Tryz.prog 88 = some 1 := by kernel_rfl
@[go_sem] theorem tB88 : byt Tryz.prog 88 = some 8 := by kernel_rfl
@[go_sem] theorem tA88 : isAggT Tryz.prog 88 = some false := by kernel_rfl
@[go_sem] theorem tZ88 : zeroC Tryz.prog 88 = some [.sc (.nilFunc)] := by kernel_rfl
@[go_sem] theorem tS89 : csz Tryz.prog 89 = some 1 := by kernel_rfl
@[go_sem] theorem tB89 : byt Tryz.prog 89 = some 8 := by kernel_rfl
@[go_sem] theorem tA89 : isAggT Tryz.prog 89 = some false := by kernel_rfl
@[go_sem] theorem tU89 : Tryz.prog.underlying 89 = some (.pointer 91) := by kernel_rfl
@[go_sem] theorem tZ89 : zeroC Tryz.prog 89 = some [.sc (.pointer none)] := by kernel_rfl
@[go_sem] theorem tS90 : csz Tryz.prog 90 = some 2 := by kernel_rfl
@[go_sem] theorem tB90 : byt Tryz.prog 90 = some 40 := by kernel_rfl
@[go_sem] theorem tA90 : isAggT Tryz.prog 90 = some true := by kernel_rfl
@[go_sem] theorem tP90 : placesOf Tryz.prog 90 = some [(0, 1), (1, 1)] := by kernel_rfl
@[go_sem] theorem tZ90 : zeroC Tryz.prog 90 = some [.sc (.slice none 0 0), .sc (.nilIface)] := by kernel_rfl
@[go_sem] theorem tS91 : csz Tryz.prog 91 = some 2 := by kernel_rfl
@[go_sem] theorem tB91 : byt Tryz.prog 91 = some 40 := by kernel_rfl
@[go_sem] theorem tA91 : isAggT Tryz.prog 91 = some true := by kernel_rfl
@[go_sem] theorem tP91 : placesOf Tryz.prog 91 = some [(0, 1), (1, 1)] := by kernel_rfl
@[go_sem] theorem tZ91 : zeroC Tryz.prog 91 = some [.sc (.slice none 0 0), .sc (.nilIface)] := by kernel_rfl
@[go_sem] theorem tS92 : csz Tryz.prog 92 = some 1 := by kernel_rfl
@[go_sem] theorem tB92 : byt Tryz.prog 92 = some 8 := by kernel_rfl
@[go_sem] theorem tA92 : isAggT Tryz.prog 92 = some false := by kernel_rfl
@[go_sem] theorem tZ92 : zeroC Tryz.prog 92 = some [.sc (.nilFunc)] := by kernel_rfl
@[go_sem] theorem tS93 : csz Tryz.prog 93 = some 1 := by kernel_rfl
@[go_sem] theorem tB93 : byt Tryz.prog 93 = some 8 := by kernel_rfl
@[go_sem] theorem tA93 : isAggT Tryz.prog 93 = some false := by kernel_rfl
@[go_sem] theorem tZ93 : zeroC Tryz.prog 93 = some [.sc (.nilFunc)] := by kernel_rfl
@[go_sem] theorem tS94 : csz Tryz.prog 94 = some 1 := by kernel_rfl
@[go_sem] theorem tB94 : byt Tryz.prog 94 = some 8 := by kernel_rfl
@[go_sem] theorem tA94 : isAggT Tryz.prog 94 = some false := by kernel_rfl
@[go_sem] theorem tU94 : Tryz.prog.underlying 94 = some (.pointer 98) := by kernel_rfl
@[go_sem] theorem tZ94 : zeroC Tryz.prog 94 = some [.sc (.pointer none)] := by kernel_rfl
@[go_sem] theorem tS95 : csz Tryz.prog 95 = some 1 := by kernel_rfl
@[go_sem] theorem tB95 : byt Tryz.prog 95 = some 8 := by kernel_rfl
@[go_sem] theorem tA95 : isAggT Tryz.prog 95 = some false := by kernel_rfl
@[go_sem] theorem tZ95 : zeroC Tryz.prog 95 = some [.sc (.nilFunc)] := by kernel_rfl
@[go_sem] theorem tS96 : csz Tryz.prog 96 = some 1 := by kernel_rfl
@[go_sem] theorem tB96 : byt Tryz.prog 96 = some 8 := by kernel_rfl
@[go_sem] theorem tA96 : isAggT Tryz.prog 96 = some false := by kernel_rfl
@[go_sem] theorem tU96 : Tryz.prog.underlying 96 = some (.pointer 94) := by kernel_rfl
@[go_sem] theorem tZ96 : zeroC Tryz.prog 96 = some [.sc (.pointer none)] := by kernel_rfl
@[go_sem] theorem tS97 : csz Tryz.prog 97 = some 2 := by kernel_rfl
@[go_sem] theorem tB97 : byt Tryz.prog 97 = some 24 := by kernel_rfl
@[go_sem] theorem tA97 : isAggT Tryz.prog 97 = some true := by kernel_rfl
@[go_sem] theorem tP97 : placesOf Tryz.prog 97 = some [(0, 1), (1, 1)] := by kernel_rfl
@[go_sem] theorem tZ97 : zeroC Tryz.prog 97 = some [.sc (.string ByteArray.empty), .sc (.int .i64 0)] := by kernel_rfl
@[go_sem] theorem tS98 : csz Tryz.prog 98 = some 2 := by kernel_rfl
@[go_sem] theorem tB98 : byt Tryz.prog 98 = some 24 := by kernel_rfl
@[go_sem] theorem tA98 : isAggT Tryz.prog 98 = some true := by kernel_rfl
@[go_sem] theorem tP98 : placesOf Tryz.prog 98 = some [(0, 1), (1, 1)] := by kernel_rfl
@[go_sem] theorem tZ98 : zeroC Tryz.prog 98 = some [.sc (.string ByteArray.empty), .sc (.int .i64 0)] := by kernel_rfl
@[go_sem] theorem tS99 : csz Tryz.prog 99 = some 1 := by kernel_rfl
@[go_sem] theorem tB99 : byt Tryz.prog 99 = some 8 := by kernel_rfl
@[go_sem] theorem tA99 : isAggT Tryz.prog 99 = some false := by kernel_rfl
@[go_sem] theorem tZ99 : zeroC Tryz.prog 99 = some [.sc (.nilFunc)] := by kernel_rfl
@[go_sem] theorem tS100 : csz Tryz.prog 100 = some 1 := by kernel_rfl
@[go_sem] theorem tB100 : byt Tryz.prog 100 = some 24 := by kernel_rfl
@[go_sem] theorem tA100 : isAggT Tryz.prog 100 = some false := by kernel_rfl
@[go_sem] theorem tU100 : Tryz.prog.underlying 100 = some (.slice 4) := by kernel_rfl
@[go_sem] theorem tZ100 : zeroC Tryz.prog 100 = some [.sc (.slice none 0 0)] := by kernel_rfl
@[go_sem] theorem tS101 : csz Tryz.prog 101 = some 1 := by kernel_rfl
@[go_sem] theorem tB101 : byt Tryz.prog 101 = some 0 := by kernel_rfl
@[go_sem] theorem tA101 : isAggT Tryz.prog 101 = some false := by kernel_rfl
@[go_sem] theorem tS102 : csz Tryz.prog 102 = some 1 := by kernel_rfl
@[go_sem] theorem tB102 : byt Tryz.prog 102 = some 8 := by kernel_rfl
@[go_sem] theorem tA102 : isAggT Tryz.prog 102 = some false := by kernel_rfl
@[go_sem] theorem tZ102 : zeroC Tryz.prog 102 = some [.sc (.nilFunc)] := by kernel_rfl
@[go_sem] theorem tS103 : csz Tryz.prog 103 = some 1 := by kernel_rfl
@[go_sem] theorem tB103 : byt Tryz.prog 103 = some 0 := by kernel_rfl
@[go_sem] theorem tA103 : isAggT Tryz.prog 103 = some false := by kernel_rfl
@[go_sem] theorem tS104 : csz Tryz.prog 104 = some 1 := by kernel_rfl
@[go_sem] theorem tB104 : byt Tryz.prog 104 = some 8 := by kernel_rfl
@[go_sem] theorem tA104 : isAggT Tryz.prog 104 = some false := by kernel_rfl
@[go_sem] theorem tZ104 : zeroC Tryz.prog 104 = some [.sc (.nilFunc)] := by kernel_rfl
@[go_sem] theorem tS105 : csz Tryz.prog 105 = some 1 := by kernel_rfl
@[go_sem] theorem tB105 : byt Tryz.prog 105 = some 0 := by kernel_rfl
@[go_sem] theorem tA105 : isAggT Tryz.prog 105 = some false := by kernel_rfl
@[go_sem] theorem tS106 : csz Tryz.prog 106 = some 1 := by kernel_rfl
@[go_sem] theorem tB106 : byt Tryz.prog 106 = some 8 := by kernel_rfl
@[go_sem] theorem tA106 : isAggT Tryz.prog 106 = some false := by kernel_rfl
@[go_sem] theorem tZ106 : zeroC Tryz.prog 106 = some [.sc (.nilFunc)] := by kernel_rfl
@[go_sem] theorem tS107 : csz Tryz.prog 107 = some 11 := by kernel_rfl
@[go_sem] theorem tB107 : byt Tryz.prog 107 = some 176 := by kernel_rfl
@[go_sem] theorem tA107 : isAggT Tryz.prog 107 = some true := by kernel_rfl
@[go_sem] theorem tZ107 : zeroC Tryz.prog 107 = some [.sc (.string ByteArray.empty), .sc (.string ByteArray.empty), .sc (.string ByteArray.empty), .sc (.string ByteArray.empty), .sc (.string ByteArray.empty), .sc (.string ByteArray.empty), .sc (.string ByteArray.empty), .sc (.string ByteArray.empty), .sc (.string ByteArray.empty), .sc (.string ByteArray.empty), .sc (.string ByteArray.empty)] := by kernel_rfl
@[go_sem] theorem tS108 : csz Tryz.prog 108 = some 1 := by kernel_rfl
@[go_sem] theorem tB108 : byt Tryz.prog 108 = some 8 := by kernel_rfl
@[go_sem] theorem tA108 : isAggT Tryz.prog 108 = some false := by kernel_rfl
@[go_sem] theorem tZ108 : zeroC Tryz.prog 108 = some [.sc (.nilFunc)] := by kernel_rfl
@[go_sem] theorem tS109 : csz Tryz.prog 109 = some 1 := by kernel_rfl
@[go_sem] theorem tB109 : byt Tryz.prog 109 = some 8 := by kernel_rfl
@[go_sem] theorem tA109 : isAggT Tryz.prog 109 = some false := by kernel_rfl
@[go_sem] theorem tZ109 : zeroC Tryz.prog 109 = some [.sc (.nilFunc)] := by kernel_rfl
@[go_sem] theorem tS110 : csz Tryz.prog 110 = some 1 := by kernel_rfl
@[go_sem] theorem tB110 : byt Tryz.prog 110 = some 8 := by kernel_rfl
@[go_sem] theorem tA110 : isAggT Tryz.prog 110 = some false := by kernel_rfl
@[go_sem] theorem tZ110 : zeroC Tryz.prog 110 = some [.sc (.nilFunc)] := by kernel_rfl
@[go_sem] theorem tS111 : csz Tryz.prog 111 = some 1 := by kernel_rfl
@[go_sem] theorem tB111 : byt Tryz.prog 111 = some 8 := by kernel_rfl
@[go_sem] theorem tA111 : isAggT Tryz.prog 111 = some false := by kernel_rfl
@[go_sem] theorem tU111 : Tryz.prog.underlying 111 = some (.int .u64) := by kernel_rfl
@[go_sem] theorem tZ111 : zeroC Tryz.prog 111 = some [.sc (.int .u64 0)] := by kernel_rfl
@[go_sem] theorem tS112 : csz Tryz.prog 112 = some 1 := by kernel_rfl
@[go_sem] theorem tB112 : byt Tryz.prog 112 = some 8 := by kernel_rfl
@[go_sem] theorem tA112 : isAggT Tryz.prog 112 = some false := by kernel_rfl
@[go_sem] theorem tU112 : Tryz.prog.underlying 112 = some (.pointer 5) := by kernel_rfl
@[go_sem] theorem tZ112 : zeroC Tryz.prog 112 = some [.sc (.pointer none)] := by kernel_rfl
@[go_sem] theorem tS113 : csz Tryz.prog 113 = some 1 := by kernel_rfl
@[go_sem] theorem tB113 : byt Tryz.prog 113 = some 8 := by kernel_rfl
@[go_sem] theorem tA113 : isAggT Tryz.prog 113 = some false := by kernel_rfl
@[go_sem] theorem tZ113 : zeroC Tryz.prog 113 = some [.sc (.nilFunc)] := by kernel_rfl
@[go_sem] theorem tS114 : csz Tryz.prog 114 = some 1 := by kernel_rfl
@[go_sem] theorem tB114 : byt Tryz.prog 114 = some 8 := by kernel_rfl
@[go_sem] theorem tA114 : isAggT Tryz.prog 114 = some false := by kernel_rfl
@[go_sem] theorem tZ114 : zeroC Tryz.prog 114 = some [.sc (.nilFunc)] := by kernel_rfl
@[go_sem] theorem tS115 : csz Tryz.prog 115 = some 1 := by kernel_rfl
@[go_sem] theorem tB115 : byt Tryz.prog 115 = some 8 := by kernel_rfl
@[go_sem] theorem tA115 : isAggT Tryz.prog 115 = some false := by kernel_rfl
@[go_sem] theorem tZ115 : zeroC Tryz.prog 115 = some [.sc (.nilFunc)] := by kernel_rfl
@[go_sem] theorem tS116 : csz Tryz.prog 116 = some 1 := by kernel_rfl
@[go_sem] theorem tB116 : byt Tryz.prog 116 = some 8 := by kernel_rfl
@[go_sem] theorem tA116 : isAggT Tryz.prog 116 = some false := by kernel_rfl
@[go_sem] theorem tZ116 : zeroC Tryz.prog 116 = some [.sc (.nilFunc)] := by kernel_rfl
@[go_sem] theorem tS117 : csz Tryz.prog 117 = some 1 := by kernel_rfl
@[go_sem] theorem tB117 : byt Tryz.prog 117 = some 8 := by kernel_rfl
@[go_sem] theorem tA117 : isAggT Tryz.prog 117 = some false := by kernel_rfl
@[go_sem] theorem tZ117 : zeroC Tryz.prog 117 = some [.sc (.nilFunc)] := by kernel_rfl
@[go_sem] theorem tS118 : csz Tryz.prog 118 = some 1 := by kernel_rfl
@[go_sem] theorem tB118 : byt Tryz.prog 118 = some 0 := by kernel_rfl
@[go_sem] theorem tA118 : isAggT Tryz.prog 118 = some false := by kernel_rfl
@[go_sem] theorem tS119 : csz Tryz.prog 119 = some 1 := by kernel_rfl
@[go_sem] theorem tB119 : byt Tryz.prog 119 = some 8 := by kernel_rfl
@[go_sem] theorem tA119 : isAggT Tryz.prog 119 = some false := by kernel_rfl
@[go_sem] theorem tZ119 : zeroC Tryz.prog 119 = some [.sc (.nilFunc)] := by kernel_rfl
@[go_sem] theorem tS120 : csz Tryz.prog 120 = some 1 := by kernel_rfl
@[go_sem] theorem tB120 : byt Tryz.prog 120 = some 8 := by kernel_rfl
@[go_sem] theorem tA120 : isAggT Tryz.prog 120 = some false := by kernel_rfl
@[go_sem] theorem tZ120 : zeroC Tryz.prog 120 = some [.sc (.nilFunc)] := by kernel_rfl
@[go_sem] theorem tS121 : csz Tryz.prog 121 = some 1 := by kernel_rfl
@[go_sem] theorem tB121 : byt Tryz.prog 121 = some 8 := by kernel_rfl
@[go_sem] theorem tA121 : isAggT Tryz.prog 121 = some false := by kernel_rfl
@[go_sem] theorem tZ121 : zeroC Tryz.prog 121 = some [.sc (.pointer none)] := by kernel_rfl
@[go_sem] theorem tS122 : csz Tryz.prog 122 = some 1 := by kernel_rfl
@[go_sem] theorem tB122 : byt Tryz.prog 122 = some 8 := by kernel_rfl
@[go_sem] theorem tA122 : isAggT Tryz.prog 122 = some false := by kernel_rfl
@[go_sem] theorem tU122 : Tryz.prog.underlying 122 = some (.int .u64) := by kernel_rfl
@[go_sem] theorem tZ122 : zeroC Tryz.prog 122 = some [.sc (.int .u64 0)] := by kernel_rfl
@[go_sem] theorem tS123 : csz Tryz.prog 123 = some 3 := by kernel_rfl
@[go_sem] theorem tB123 : byt Tryz.prog 123 = some 24 := by kernel_rfl
@[go_sem] theorem tA123 : isAggT Tryz.prog 123 = some true := by kernel_rfl
@[go_sem] theorem tP123 : placesOf Tryz.prog 123 = some [(0, 1), (1, 1), (2, 1)] := by kernel_rfl
@[go_sem] theorem tZ123 : zeroC Tryz.prog 123 = some [.sc (.pointer none), .sc (.pointer none), .sc (.int .u64 0)] := by kernel_rfl
@[go_sem] theorem tS124 : csz Tryz.prog 124 = some 3 := by kernel_rfl
@[go_sem] theorem tB124 : byt Tryz.prog 124 = some 24 := by kernel_rfl
@[go_sem] theorem tA124 : isAggT Tryz.prog 124 = some true := by kernel_rfl
@[go_sem] theorem tP124 : placesOf Tryz.prog 124 = some [(0, 1), (1, 1), (2, 1)] := by kernel_rfl
@[go_sem] theorem tZ124 : zeroC Tryz.prog 124 = some [.sc (.pointer none), .sc (.pointer none), .sc (.int .u64 0)] := by kernel_rfl
@[go_sem] theorem tS125 : csz Tryz.prog 125 = some 1 := by kernel_rfl
@[go_sem] theorem tB125 : byt Tryz.prog 125 = some 8 := by kernel_rfl
@[go_sem] theorem tA125 : isAggT Tryz.prog 125 = some false := by kernel_rfl
@[go_sem] theorem tZ125 : zeroC Tryz.prog 125 = some [.sc (.nilFunc)] := by kernel_rfl
@[go_sem] theorem tS126 : csz Tryz.prog 126 = some 1 := by kernel_rfl
@[go_sem] theorem tB126 : byt Tryz.prog 126 = some 16 := by kernel_rfl
@[go_sem] theorem tA126 : isAggT Tryz.prog 126 = some false := by kernel_rfl
@[go_sem] theorem tZ126 : zeroC Tryz.prog 126 = some [.sc (.nilIface)] := by kernel_rfl
@[go_sem] theorem tS127 : csz Tryz.prog 127 = some 1 := by kernel_rfl
@[go_sem] theorem tB127 : byt Tryz.prog 127 = some 16 := by kernel_rfl
@[go_sem] theorem tA127 : isAggT Tryz.prog 127 = some false := by kernel_rfl
@[go_sem] theorem tZ127 : zeroC Tryz.prog 127 = some [.sc (.nilIface)] := by kernel_rfl
@[go_sem] theorem tS128 : csz Tryz.prog 128 = some 1 := by kernel_rfl
@[go_sem] theorem tB128 : byt Tryz.prog 128 = some 8 := by kernel_rfl
@[go_sem] theorem tA128 : isAggT Tryz.prog 128 = some false := by kernel_rfl
@[go_sem] theorem tZ128 : zeroC Tryz.prog 128 = some [.sc (.nilFunc)] := by kernel_rfl
@[go_sem] theorem tS129 : csz Tryz.prog 129 = some 1 := by kernel_rfl
@[go_sem] theorem tB129 : byt Tryz.prog 129 = some 1 := by kernel_rfl
@[go_sem] theorem tA129 : isAggT Tryz.prog 129 = some false := by kernel_rfl
@[go_sem] theorem tU129 : Tryz.prog.underlying 129 = some (.int .u8) := by kernel_rfl
@[go_sem] theorem tZ129 : zeroC Tryz.prog 129 = some [.sc (.int .u8 0)] := by kernel_rfl
@[go_sem] theorem tS130 : csz Tryz.prog 130 = some 1 := by kernel_rfl
@[go_sem] theorem tB130 : byt Tryz.prog 130 = some 8 := by kernel_rfl
@[go_sem] theorem tA130 : isAggT Tryz.prog 130 = some false := by kernel_rfl
@[go_sem] theorem tZ130 : zeroC Tryz.prog 130 = some [.sc (.nilFunc)] := by kernel_rfl
@[go_sem] theorem tS131 : csz Tryz.prog 131 = some 1 := by kernel_rfl
@[go_sem] theorem tB131 : byt Tryz.prog 131 = some 8 := by kernel_rfl
@[go_sem] theorem tA131 : isAggT Tryz.prog 131 = some false := by kernel_rfl
@[go_sem] theorem tZ131 : zeroC Tryz.prog 131 = some [.sc (.nilFunc)] := by kernel_rfl
@[go_sem] theorem tS132 : csz Tryz.prog 132 = some 1 := by kernel_rfl
@[go_sem] theorem tB132 : byt Tryz.prog 132 = some 8 := by kernel_rfl
@[go_sem] theorem tA132 : isAggT Tryz.prog 132 = some false := by kernel_rfl
@[go_sem] theorem tZ132 : zeroC Tryz.prog 132 = some [.sc (.nilFunc)] := by kernel_rfl
@[go_sem] theorem tS133 : csz Tryz.prog 133 = some 1 := by kernel_rfl
@[go_sem] theorem tB133 : byt Tryz.prog 133 = some 8 := by kernel_rfl
@[go_sem] theorem tA133 : isAggT Tryz.prog 133 = some false := by kernel_rfl
@[go_sem] theorem tZ133 : zeroC Tryz.prog 133 = some [.sc (.nilFunc)] := by kernel_rfl
@[go_sem] theorem tS134 : csz Tryz.prog 134 = some 1 := by kernel_rfl
@[go_sem] theorem tB134 : byt Tryz.prog 134 = some 8 := by kernel_rfl
@[go_sem] theorem tA134 : isAggT Tryz.prog 134 = some false := by kernel_rfl
@[go_sem] theorem tZ134 : zeroC Tryz.prog 134 = some [.sc (.nilFunc)] := by kernel_rfl
@[go_sem] theorem tS135 : csz Tryz.prog 135 = some 1 := by kernel_rfl
@[go_sem] theorem tB135 : byt Tryz.prog 135 = some 8 := by kernel_rfl
@[go_sem] theorem tA135 : isAggT Tryz.prog 135 = some false := by kernel_rfl
@[go_sem] theorem tZ135 : zeroC Tryz.prog 135 = some [.sc (.nilFunc)] := by kernel_rfl
@[go_sem] theorem tS136 : csz Tryz.prog 136 = some 1 := by kernel_rfl
@[go_sem] theorem tB136 : byt Tryz.prog 136 = some 8 := by kernel_rfl
@[go_sem] theorem tA136 : isAggT Tryz.prog 136 = some false := by kernel_rfl
@[go_sem] theorem tZ136 : zeroC Tryz.prog 136 = some [.sc (.nilFunc)] := by kernel_rfl
@[go_sem] theorem tS137 : csz Tryz.prog 137 = some 1 := by kernel_rfl
@[go_sem] theorem tB137 : byt Tryz.prog 137 = some 8 := by kernel_rfl
@[go_sem] theorem tA137 : isAggT Tryz.prog 137 = some false := by kernel_rfl
@[go_sem] theorem tZ137 : zeroC Tryz.prog 137 = some [.sc (.nilFunc)] := by kernel_rfl
@[go_sem] theorem tS138 : csz Tryz.prog 138 = some 1 := by kernel_rfl
@[go_sem] theorem tB138 : byt Tryz.prog 138 = some 0 := by kernel_rfl
@[go_sem] theorem tA138 : isAggT Tryz.prog 138 = some false := by kernel_rfl
@[go_sem] theorem tS139 : csz Tryz.prog 139 = some 1 := by kernel_rfl
@[go_sem] theorem tB139 : byt Tryz.prog 139 = some 8 := by kernel_rfl
@[go_sem] theorem tA139 : isAggT Tryz.prog 139 = some false := by kernel_rfl
@[go_sem] theorem tZ139 : zeroC Tryz.prog 139 = some [.sc (.nilFunc)] := by kernel_rfl
@[go_sem] theorem tS140 : csz Tryz.prog 140 = some 1 := by kernel_rfl
@[go_sem] theorem tB140 : byt Tryz.prog 140 = some 8 := by kernel_rfl
@[go_sem] theorem tA140 : isAggT Tryz.prog 140 = some false := by kernel_rfl
@[go_sem] theorem tZ140 : zeroC Tryz.prog 140 = some [.sc (.nilFunc)] := by kernel_rfl
@[go_sem] theorem tS141 : csz Tryz.prog 141 = some 1 := by kernel_rfl
@[go_sem] theorem tB141 : byt Tryz.prog 141 = some 8 := by kernel_rfl
@[go_sem] theorem tA141 : isAggT Tryz.prog 141 = some true := by kernel_rfl
@[go_sem] theorem tP141 : placesOf Tryz.prog 141 = some [(0, 1)] := by kernel_rfl
@[go_sem] theorem tZ141 : zeroC Tryz.prog 141 = some [.sc (.pointer none)] := by kernel_rfl
@[go_sem] theorem tS142 : csz Tryz.prog 142 = some 1 := by kernel_rfl
@[go_sem] theorem tB142 : byt Tryz.prog 142 = some 8 := by kernel_rfl
@[go_sem] theorem tA142 : isAggT Tryz.prog 142 = some true := by kernel_rfl
@[go_sem] theorem tP142 : placesOf Tryz.prog 142 = some [(0, 1)] := by kernel_rfl
@[go_sem] theorem tZ142 : zeroC Tryz.prog 142 = some [.sc (.pointer none)] := by kernel_rfl
@[go_sem] theorem tS143 : csz Tryz.prog 143 = some 1 := by kernel_rfl
@[go_sem] theorem tB143 : byt Tryz.prog 143 = some 8 := by kernel_rfl
@[go_sem] theorem tA143 : isAggT Tryz.prog 143 = some false := by kernel_rfl
@[go_sem] theorem tU143 : Tryz.prog.underlying 143 = some (.pointer 204) := by kernel_rfl
@[go_sem] theorem tZ143 : zeroC Tryz.prog 143 = some [.sc (.pointer none)] := by kernel_rfl
@[go_sem] theorem tS144 : csz Tryz.prog 144 = some 1 := by kernel_rfl
@[go_sem] theorem tB144 : byt Tryz.prog 144 = some 8 := by kernel_rfl
@[go_sem] theorem tA144 : isAggT Tryz.prog 144 = some false := by kernel_rfl
@[go_sem] theorem tZ144 : zeroC Tryz.prog 144 = some [.sc (.nilFunc)] := by kernel_rfl
@[go_sem] theorem tS145 : csz Tryz.prog 145 = some 1 := by kernel_rfl
@[go_sem] theorem tB145 : byt Tryz.prog 145 = some 8 := by kernel_rfl
@[go_sem] theorem tA145 : isAggT Tryz.prog 145 = some false := by kernel_rfl
@[go_sem] theorem tZ145 : zeroC Tryz.prog 145 = some [.sc (.nilFunc)] := by kernel_rfl
@[go_sem] theorem tS146 : csz Tryz.prog 146 = some 1 := by kernel_rfl
@[go_sem] theorem tB146 : byt Tryz.prog 146 = some 8 := by kernel_rfl
@[go_sem] theorem tA146 : isAggT Tryz.prog 146 = some false := by kernel_rfl
@[go_sem] theorem tZ146 : zeroC Tryz.prog 146 = some [.sc (.nilFunc)] := by kernel_rfl
@[go_sem] theorem tS147 : csz Tryz.prog 147 = some 1 := by kernel_rfl
@[go_sem] theorem tB147 : byt Tryz.prog 147 = some 16 := by kernel_rfl
@[go_sem] theorem tA147 : isAggT Tryz.prog 147 = some false := by kernel_rfl
@[go_sem] theorem tZ147 : zeroC Tryz.prog 147 = some [.sc (.nilIface)] := by kernel_rfl
@[go_sem] theorem tS148 : csz Tryz.prog 148 = some 1 := by kernel_rfl
@[go_sem] theorem tB148 : byt Tryz.prog 148 = some 0 := by kernel_rfl
@[go_sem] theorem tA148 : isAggT Tryz.prog 148 = some false := by kernel_rfl
@[go_sem] theorem tS149 : csz Tryz.prog 149 = some 1 := by kernel_rfl
@[go_sem] theorem tB149 : byt Tryz.prog 149 = some 8 := by kernel_rfl
@[go_sem] theorem tA149 : isAggT Tryz.prog 149 = some false := by kernel_rfl
@[go_sem] theorem tZ149 : zeroC Tryz.prog 149 = some [.sc (.nilFunc)] := by kernel_rfl
@[go_sem] theorem tS150 : csz Tryz.prog 150 = some 1 := by kernel_rfl
@[go_sem] theorem tB150 : byt Tryz.prog 150 = some 16 := by kernel_rfl
@[go_sem] theorem tA150 : isAggT Tryz.prog 150 = some false := by kernel_rfl
@[go_sem] theorem tZ150 : zeroC Tryz.prog 150 = some [.sc (.nilIface)] := by kernel_rfl
@[go_sem] theorem tS151 : csz Tryz.prog 151 = some 1 := by kernel_rfl
@[go_sem] theorem tB151 : byt Tryz.prog 151 = some 16 := by kernel_rfl
@[go_sem] theorem tA151 : isAggT Tryz.prog 151 = some false := by kernel_rfl
@[go_sem] theorem tZ151 : zeroC Tryz.prog 151 = some [.sc (.nilIface)] := by kernel_rfl
@[go_sem] theorem tS152 : csz Tryz.prog 152 = some 1 := by kernel_rfl
@[go_sem] theorem tB152 : byt Tryz.prog 152 = some 24 := by kernel_rfl
@[go_sem] theorem tA152 : isAggT Tryz.prog 152 = some false := by kernel_rfl
@[go_sem] theorem tU152 : Tryz.prog.underlying 152 = some (.slice 57) := by kernel_rfl
@[go_sem] theorem tZ152 : zeroC Tryz.prog 152 = some [.sc (.slice none 0 0)] := by kernel_rfl
@[go_sem] theorem tS153 : csz Tryz.prog 153 = some 1 := by kernel_rfl
@[go_sem] theorem tB153 : byt Tryz.prog 153 = some 8 := by kernel_rfl
@[go_sem] theorem tA153 : isAggT Tryz.prog 153 = some false := by kernel_rfl
@[go_sem] theorem tZ153 : zeroC Tryz.prog 153 = some [.sc (.nilFunc)] := by kernel_rfl
@[go_sem] theorem tS154 : csz Tryz.prog 154 = some 24 := by kernel_rfl
@[go_sem] theorem tB154 : byt Tryz.prog 154 = some 24 := by kernel_rfl
@[go_sem] theorem tA154 : isAggT Tryz.prog 154 = some true := by kernel_rfl
@[go_sem] theorem tZ154 : zeroC Tryz.prog 154 = some [.sc (.int .u8 0), .sc (.int .u8 0), .sc (.int .u8 0), .sc (.int .u8 0), .sc (.int .u8 0), .sc (.int .u8 0), .sc (.int .u8 0), .sc (.int .u8 0), .sc (.int .u8 0), .sc (.int .u8 0), .sc (.int .u8 0), .sc (.int .u8 0), .sc (.int .u8 0), .sc (.int .u8 0), .sc (.int .u8 0), .sc (.int .u8 0), .sc (.int .u8 0), .sc (.int .u8 0), .sc (.int .u8 0), .sc (.int .u8 0), .sc (.int .u8 0), .sc (.int .u8 0), .sc (.int .u8 0), .sc (.int .u8 0)] := by kernel_rfl
@[go_sem] theorem tS155 : csz Tryz.prog 155 = some 1 := by kernel_rfl
@[go_sem] theorem tB155 : byt Tryz.prog 155 = some 8 := by kernel_rfl
@[go_sem] theorem tA155 : isAggT Tryz.prog 155 = some false := by kernel_rfl
@[go_sem] theorem tZ155 : zeroC Tryz.prog 155 = some [.sc (.nilFunc)] := by kernel_rfl
@[go_sem] theorem tS156 : csz Tryz.prog 156 = some 1 := by kernel_rfl
@[go_sem] theorem tB156 : byt Tryz.prog 156 = some 8 := by kernel_rfl
@[go_sem] theorem tA156 : isAggT Tryz.prog 156 = some false := by kernel_rfl
@[go_sem] theorem tZ156 : zeroC Tryz.prog 156 = some [.sc (.nilFunc)] := by kernel_rfl
@[go_sem] theorem tS157 : csz Tryz.prog 157 = some 1 := by kernel_rfl
@[go_sem] theorem tB157 : byt Tryz.prog 157 = some 0 := by kernel_rfl
@[go_sem] theorem tA157 : isAggT Tryz.prog 157 = some false := by kernel_rfl
@[go_sem] theorem tS158 : csz Tryz.prog 158 = some 1 := by kernel_rfl
@[go_sem] theorem tB158 : byt Tryz.prog 158 = some 8 := by kernel_rfl
@[go_sem] theorem tA158 : isAggT Tryz.prog 158 = some false := by kernel_rfl
@[go_sem] theorem tZ158 : zeroC Tryz.prog 158 = some [.sc (.nilFunc)] := by kernel_rfl
@[go_sem] theorem tS159 : csz Tryz.prog 159 = some 1 := by kernel_rfl
@[go_sem] theorem tB159 : byt Tryz.prog 159 = some 8 := by kernel_rfl
@[go_sem] theorem tA159 : isAggT Tryz.prog 159 = some false := by kernel_rfl
@[go_sem] theorem tZ159 : zeroC Tryz.prog 159 = some [.sc (.nilFunc)] := by kernel_rfl
@[go_sem] theorem tS160 : csz Tryz.prog 160 = some 1 := by kernel_rfl
@[go_sem] theorem tB160 : byt Tryz.prog 160 = some 8 := by kernel_rfl
@[go_sem] theorem tA160 : isAggT Tryz.prog 160 = some false := by kernel_rfl
@[go_sem] theorem tU160 : Tryz.prog.underlying 160 = some (.int .i64) := by kernel_rfl
@[go_sem] theorem tZ160 : zeroC Tryz.prog 160 = some [.sc (.int .i64 0)] := by kernel_rfl
@[go_sem] theorem tS161 : csz Tryz.prog 161 = some 1 := by kernel_rfl
@[go_sem] theorem tB161 : byt Tryz.prog 161 = some 0 := by kernel_rfl
@[go_sem] theorem tA161 : isAggT Tryz.prog 161 = some false := by kernel_rfl
@[go_sem] theorem tS162 : csz Tryz.prog 162 = some 1 := by kernel_rfl
@[go_sem] theorem tB162 : byt Tryz.prog 162 = some 8 := by kernel_rfl
@[go_sem] theorem tA162 : isAggT Tryz.prog 162 = some false := by kernel_rfl
@[go_sem] theorem tZ162 : zeroC Tryz.prog 162 = some [.sc (.nilFunc)] := by kernel_rfl
@[go_sem] theorem tS163 : csz Tryz.prog 163 = some 1 := by kernel_rfl
@[go_sem] theorem tB163 : byt Tryz.prog 163 = some 8 := by kernel_rfl
@[go_sem] theorem tA163 : isAggT Tryz.prog 163 = some false := by kernel_rfl
@[go_sem] theorem tU163 : Tryz.prog.underlying 163 = some (.pointer 181) := by kernel_rfl
@[go_sem] theorem tZ163 : zeroC Tryz.prog 163 = some [.sc (.pointer none)] := by kernel_rfl
@[go_sem] theorem tS164 : csz Tryz.prog 164 = some 1 := by kernel_rfl
@[go_sem] theorem tB164 : byt Tryz.prog 164 = some 8 := by kernel_rfl
@[go_sem] theorem tA164 : isAggT Tryz.prog 164 = some false := by kernel_rfl
@[go_sem] theorem tZ164 : zeroC Tryz.prog 164 = some [.sc (.nilFunc)] := by kernel_rfl
@[go_sem] theorem tS165 : csz Tryz.prog 165 = some 1 := by kernel_rfl
@[go_sem] theorem tB165 : byt Tryz.prog 165 = some 8 := by kernel_rfl
@[go_sem] theorem tA165 : isAggT Tryz.prog 165 = some false := by kernel_rfl
@[go_sem] theorem tZ165 : zeroC Tryz.prog 165 = some [.sc (.nilFunc)] := by kernel_rfl
@[go_sem] theorem tS166 : csz Tryz.prog 166 = some 1 := by kernel_rfl
@[go_sem] theorem tB166 : byt Tryz.prog 166 = some 8 := by kernel_rfl
@[go_sem] theorem tA166 : isAggT Tryz.prog 166 = some false := by kernel_rfl
@[go_sem] theorem tZ166 : zeroC Tryz.prog 166 = some [.sc (.nilFunc)] := by kernel_rfl
@[go_sem] theorem tS167 : csz Tryz.prog 167 = some 1 := by kernel_rfl
@[go_sem] theorem tB167 : byt Tryz.prog 167 = some 8 := by kernel_rfl
@[go_sem] theorem tA167 : isAggT Tryz.prog 167 = some false := by kernel_rfl
@[go_sem] theorem tZ167 : zeroC Tryz.prog 167 = some [.sc (.nilFunc)] := by kernel_rfl
@[go_sem] theorem tS168 : csz Tryz.prog 168 = some 20 := by kernel_rfl
@[go_sem] theorem tB168 : byt Tryz.prog 168 = some 160 := by kernel_rfl
@[go_sem] theorem tA168 : isAggT Tryz.prog 168 = some true := by kernel_rfl
@[go_sem] theorem tZ168 : zeroC Tryz.prog 168 = some [.sc (.int .u64 0), .sc (.int .u64 0), .sc (.int .u64 0), .sc (.int .u64 0), .sc (.int .u64 0), .sc (.int .u64 0), .sc (.int .u64 0), .sc (.int .u64 0), .sc (.int .u64 0), .sc (.int .u64 0), .sc (.int .u64 0), .sc (.int .u64 0), .sc (.int .u64 0), .sc (.int .u64 0), .sc (.int .u64 0), .sc (.int .u64 0), .sc (.int .u64 0), .sc (.int .u64 0), .sc (.int .u64 0), .sc (.int .u64 0)] := by kernel_rfl
@[go_sem] theorem tS169 : csz Tryz.prog 169 = some 65 := by kernel_rfl
@[go_sem] theorem tB169 : byt Tryz.prog 169 = some 65 := by kernel_rfl
@[go_sem] theorem tA169 : isAggT Tryz.prog 169 = some true := by kernel_rfl
@[go_sem] theorem tS170 : csz Tryz.prog 170 = some 1 := by kernel_rfl
@[go_sem] theorem tB170 : byt Tryz.prog 170 = some 8 := by kernel_rfl
@[go_sem] theorem tA170 : isAggT Tryz.prog 170 = some false := by kernel_rfl
@[go_sem] theorem tZ170 : zeroC Tryz.prog 170 = some [.sc (.nilFunc)] := by kernel_rfl
@[go_sem] theorem tS171 : csz Tryz.prog 171 = some 1 := by kernel_rfl
@[go_sem] theorem tB171 : byt Tryz.prog 171 = some 8 := by kernel_rfl
@[go_sem] theorem tA171 : isAggT Tryz.prog 171 = some false := by kernel_rfl
@[go_sem] theorem tZ171 : zeroC Tryz.prog 171 = some [.sc (.nilFunc)] := by kernel_rfl
@[go_sem] theorem tS172 : csz Tryz.prog 172 = some 256 := by kernel_rfl
@[go_sem] theorem tB172 : byt Tryz.prog 172 = some 256 := by kernel_rfl
@[go_sem] theorem tA172 : isAggT Tryz.prog 172 = some true := by kernel_rfl
@[go_sem] theorem tS173 : csz Tryz.prog 173 = some 2 := by kernel_rfl
@[go_sem] theorem tB173 : byt Tryz.prog 173 = some 2 := by kernel_rfl
@[go_sem] theorem tA173 : isAggT Tryz.prog 173 = some true := by kernel_rfl
@[go_sem] theorem tP173 : placesOf Tryz.prog 173 = some [(0, 1), (1, 1)] := by kernel_rfl
@[go_sem] theorem tZ173 : zeroC Tryz.prog 173 = some [.sc (.int .u8 0), .sc (.int .u8 0)] := by kernel_rfl
@[go_sem] theorem tS174 : csz Tryz.prog 174 = some 2 := by kernel_rfl
@[go_sem] theorem tB174 : byt Tryz.prog 174 = some 2 := by kernel_rfl
@[go_sem] theorem tA174 : isAggT Tryz.prog 174 = some true := by kernel_rfl
@[go_sem] theorem tP174 : placesOf Tryz.prog 174 = some [(0, 1), (1, 1)] := by kernel_rfl
@[go_sem] theorem tZ174 : zeroC Tryz.prog 174 = some [.sc (.int .u8 0), .sc (.int .u8 0)] := by kernel_rfl
@[go_sem] theorem tS175 : csz Tryz.prog 175 = some 32 := by kernel_rfl
@[go_sem] theorem tB175 : byt Tryz.prog 175 = some 32 := by kernel_rfl
@[go_sem] theorem tA175 : isAggT Tryz.prog 175 = some true := by kernel_rfl
@[go_sem] theorem tZ175 : zeroC Tryz.prog 175 = some [.sc (.int .u8 0), .sc (.int .u8 0), .sc (.int .u8 0), .sc (.int .u8 0), .sc (.int .u8 0), .sc (.int .u8 0), .sc (.int .u8 0), .sc (.int .u8 0), .sc (.int .u8 0), .sc (.int .u8 0), .sc (.int .u8 0), .sc (.int .u8 0), .sc (.int .u8 0), .sc (.int .u8 0), .sc (.int .u8 0), .sc (.int .u8 0), .sc (.int .u8 0), .sc (.int .u8 0), .sc (.int .u8 0), .sc (.int .u8 0), .sc (.int .u8 0), .sc (.int .u8 0), .sc (.int .u8 0), .sc (.int .u8 0), .sc (.int .u8 0), .sc (.int .u8 0), .sc (.int .u8 0), .sc (.int .u8 0), .sc (.int .u8 0), .sc (.int .u8 0), .sc (.int .u8 0), .sc (.int .u8 0)] := by kernel_rfl
@[go_sem] theorem tS176 : csz Tryz.prog 176 = some 1 := by kernel_rfl
@[go_sem] theorem tB176 : byt Tryz.prog 176 = some 0 := by kernel_rfl
@[go_sem] theorem tA176 : isAggT Tryz.prog 176 = some false := by kernel_rfl
@[go_sem] theorem tS177 : csz Tryz.prog 177 = some 1 := by kernel_rfl
@[go_sem] theorem tB177 : byt Tryz.prog 177 = some 8 := by kernel_rfl
@[go_sem] theorem tA177 : isAggT Tryz.prog 177 = some false := by kernel_rfl
@[go_sem] theorem tZ177 : zeroC Tryz.prog 177 = some [.sc (.nilFunc)] := by kernel_rfl
@[go_sem] theorem tS178 : csz Tryz.prog 178 = some 1 := by kernel_rfl
@[go_sem] theorem tB178 : byt Tryz.prog 178 = some 8 := by kernel_rfl
@[go_sem] theorem tA178 : isAggT Tryz.prog 178 = some false := by kernel_rfl
@[go_sem] theorem tZ178 : zeroC Tryz.prog 178 = some [.sc (.nilFunc)] := by kernel_rfl
@[go_sem] theorem tS179 : csz Tryz.prog 179 = some 1 := by kernel_rfl
@[go_sem] theorem tB179 : byt Tryz.prog 179 = some 8 := by kernel_rfl
@[go_sem] theorem tA179 : isAggT Tryz.prog 179 = some false := by kernel_rfl
@[go_sem] theorem tZ179 : zeroC Tryz.prog 179 = some [.sc (.nilFunc)] := by kernel_rfl
@[go_sem] theorem tS180 : csz Tryz.prog 180 = some 3 := by kernel_rfl
@[go_sem] theorem tB180 : byt Tryz.prog 180 = some 48 := by kernel_rfl
@[go_sem] theorem tA180 : isAggT Tryz.prog 180 = some true := by kernel_rfl
@[go_sem] theorem tP180 : placesOf Tryz.prog 180 = some [(0, 1), (1, 1), (2, 1)] := by kernel_rfl
@[go_sem] theorem tZ180 : zeroC Tryz.prog 180 = some [.sc (.string ByteArray.empty), .sc (.string ByteArray.empty), .sc (.nilIface)] := by kernel_rfl
@[go_sem] theorem tS181 : csz Tryz.prog 181 = some 3 := by kernel_rfl
@[go_sem] theorem tB181 : byt Tryz.prog 181 = some 48 := by kernel_rfl
@[go_sem] theorem tA181 : isAggT Tryz.prog 181 = some true := by kernel_rfl
@[go_sem] theorem tP181 : placesOf Tryz.prog 181 = some [(0, 1), (1, 1), (2, 1)] := by kernel_rfl
@[go_sem] theorem tZ181 : zeroC Tryz.prog 181 = some [.sc (.string ByteArray.empty), .sc (.string ByteArray.empty), .sc (.nilIface)] := by kernel_rfl
@[go_sem] theorem tS182 : csz Tryz.prog 182 = some 1 := by kernel_rfl
@[go_sem] theorem tB182 : byt Tryz.prog 182 = some 8 := by kernel_rfl
@[go_sem] theorem tA182 : isAggT Tryz.prog 182 = some false := by kernel_rfl
@[go_sem] theorem tZ182 : zeroC Tryz.prog 182 = some [.sc (.nilFunc)] := by kernel_rfl
@[go_sem] theorem tS183 : csz Tryz.prog 183 = some 1 := by kernel_rfl
@[go_sem] theorem tB183 : byt Tryz.prog 183 = some 8 := by kernel_rfl
@[go_sem] theorem tA183 : isAggT Tryz.prog 183 = some false := by kernel_rfl
@[go_sem] theorem tZ183 : zeroC Tryz.prog 183 = some [.sc (.nilFunc)] := by kernel_rfl
@[go_sem] theorem tS184 : csz Tryz.prog 184 = some 1 := by kernel_rfl
@[go_sem] theorem tB184 : byt Tryz.prog 184 = some 8 := by kernel_rfl
@[go_sem] theorem tA184 : isAggT Tryz.prog 184 = some false := by kernel_rfl
@[go_sem] theorem tU184 : Tryz.prog.underlying 184 = some (.pointer 186) := by kernel_rfl
@[go_sem] theorem tZ184 : zeroC Tryz.prog 184 = some [.sc (.pointer none)] := by kernel_rfl
@[go_sem] theorem tS185 : csz Tryz.prog 185 = some 1 := by kernel_rfl
@[go_sem] theorem tB185 : byt Tryz.prog 185 = some 16 := by kernel_rfl
@[go_sem] theorem tA185 : isAggT Tryz.prog 185 = some true := by kernel_rfl
@[go_sem] theorem tP185 : placesOf Tryz.prog 185 = some [(0, 1)] := by kernel_rfl
@[go_sem] theorem tZ185 : zeroC Tryz.prog 185 = some [.sc (.string ByteArray.empty)] := by kernel_rfl
@[go_sem] theorem tS186 : csz Tryz.prog 186 = some 1 := by kernel_rfl
@[go_sem] theorem tB186 : byt Tryz.prog 186 = some 16 := by kernel_rfl
@[go_sem] theorem tA186 : isAggT Tryz.prog 186 = some true := by kernel_rfl
@[go_sem] theorem tP186 : placesOf Tryz.prog 186 = some [(0, 1)] := by kernel_rfl
@[go_sem] theorem tZ186 : zeroC Tryz.prog 186 = some [.sc (.string ByteArray.empty)] := by kernel_rfl
@[go_sem] theorem tS187 : csz Tryz.prog 187 = some 32 := by kernel_rfl
@[go_sem] theorem tB187 : byt Tryz.prog 187 = some 32 := by kernel_rfl
@[go_sem] theorem tA187 : isAggT Tryz.prog 187 = some true := by kernel_rfl
@[go_sem] theorem tZ187 : zeroC Tryz.prog 187 = some [.sc (.int .u8 0), .sc (.int .u8 0), .sc (.int .u8 0), .sc (.int .u8 0), .sc (.int .u8 0), .sc (.int .u8 0), .sc (.int .u8 0), .sc (.int .u8 0), .sc (.int .u8 0), .sc (.int .u8 0), .sc (.int .u8 0), .sc (.int .u8 0), .sc (.int .u8 0), .sc (.int .u8 0), .sc (.int .u8 0), .sc (.int .u8 0), .sc (.int .u8 0), .sc (.int .u8 0), .sc (.int .u8 0), .sc (.int .u8 0), .sc (.int .u8 0), .sc (.int .u8 0), .sc (.int .u8 0), .sc (.int .u8 0), .sc (.int .u8 0), .sc (.int .u8 0), .sc (.int .u8 0), .sc (.int .u8 0), .sc (.int .u8 0), .sc (.int .u8 0), .sc (.int .u8 0), .sc (.int .u8 0)] := by kernel_rfl
@[go_sem] theorem tS188 : csz Tryz.prog 188 = some 64 := by kernel_rfl
@[go_sem] theorem tB188 : byt Tryz.prog 188 = some 64 := by kernel_rfl
@[go_sem] theorem tA188 : isAggT Tryz.prog 188 = some true := by kernel_rfl
@[go_sem] theorem tS189 : csz Tryz.prog 189 = some 4 := by kernel_rfl
@[go_sem] theorem tB189 : byt Tryz.prog 189 = some 40 := by kernel_rfl
@[go_sem] theorem tA189 : isAggT Tryz.prog 189 = some true := by kernel_rfl
@[go_sem] theorem tP189 : placesOf Tryz.prog 189 = some [(0, 1), (1, 1), (2, 1), (3, 1)] := by kernel_rfl
@[go_sem] theorem tZ189 : zeroC Tryz.prog 189 = some [.sc (.pointer none), .sc (.pointer none), .sc (.pointer none), .sc (.string ByteArray.empty)] := by kernel_rfl
@[go_sem] theorem tS190 : csz Tryz.prog 190 = some 4 := by kernel_rfl
@[go_sem] theorem tB190 : byt Tryz.prog 190 = some 40 := by kernel_rfl
@[go_sem] theorem tA190 : isAggT Tryz.prog 190 = some true := by kernel_rfl
@[go_sem] theorem tP190 : placesOf Tryz.prog 190 = some [(0, 1), (1, 1), (2, 1), (3, 1)] := by kernel_rfl
@[go_sem] theorem tZ190 : zeroC Tryz.prog 190 = some [.sc (.pointer none), .sc (.pointer none), .sc (.pointer none), .sc (.string ByteArray.empty)] := by kernel_rfl
@[go_sem] theorem tS191 : csz Tryz.prog 191 = some 0 := by kernel_rfl
@[go_sem] theorem tB191 : byt Tryz.prog 191 = some 0 := by kernel_rfl
@[go_sem] theorem tA191 : isAggT Tryz.prog 191 = some true := by kernel_rfl
@[go_sem] theorem tZ191 : zeroC Tryz.prog 191 = some [] := by kernel_rfl
@[go_sem] theorem tS192 : csz Tryz.prog 192 = some 0 := by kernel_rfl
@[go_sem] theorem tB192 : byt Tryz.prog 192 = some 0 := by kernel_rfl
@[go_sem] theorem tA192 : isAggT Tryz.prog 192 = some true := by kernel_rfl
@[go_sem] theorem tP192 : placesOf Tryz.prog 192 = some [(0, 0)] := by kernel_rfl
@[go_sem] theorem tZ192 : zeroC Tryz.prog 192 = some [] := by kernel_rfl
@[go_sem] theorem tS193 : csz Tryz.prog 193 = some 0 := by kernel_rfl
@[go_sem] theorem tB193 : byt Tryz.prog 193 = some 0 := by kernel_rfl
@[go_sem] theorem tA193 : isAggT Tryz.prog 193 = some true := by kernel_rfl
@[go_sem] theorem tP193 : placesOf Tryz.prog 193 = some [(0, 0)] := by kernel_rfl
@[go_sem] theorem tZ193 : zeroC Tryz.prog 193 = some [] := by kernel_rfl
@[go_sem] theorem tS194 : csz Tryz.prog 194 = some 1 := by kernel_rfl
@[go_sem] theorem tB194 : byt Tryz.prog 194 = some 8 := by kernel_rfl
@[go_sem] theorem tA194 : isAggT Tryz.prog 194 = some false := by kernel_rfl
@[go_sem] theorem tZ194 : zeroC Tryz.prog 194 = some [.sc (.nilFunc)] := by kernel_rfl
@[go_sem] theorem tS195 : csz Tryz.prog 195 = some 1 := by kernel_rfl
@[go_sem] theorem tB195 : byt Tryz.prog 195 = some 1 := by kernel_rfl
@[go_sem] theorem tA195 : isAggT Tryz.prog 195 = some false := by kernel_rfl
@[go_sem] theorem tU195 : Tryz.prog.underlying 195 = some (.int .u8) := by kernel_rfl
@[go_sem] theorem tZ195 : zeroC Tryz.prog 195 = some [.sc (.int .u8 0)] := by kernel_rfl
@[go_sem] theorem tS196 : csz Tryz.prog 196 = some 1 := by kernel_rfl
@[go_sem] theorem tB196 : byt Tryz.prog 196 = some 8 := by kernel_rfl
@[go_sem] theorem tA196 : isAggT Tryz.prog 196 = some false := by kernel_rfl
@[go_sem] theorem tZ196 : zeroC Tryz.prog 196 = some [.sc (.nilFunc)] := by kernel_rfl
@[go_sem] theorem tS197 : csz Tryz.prog 197 = some 1 := by kernel_rfl
@[go_sem] theorem tB197 : byt Tryz.prog 197 = some 4 := by kernel_rfl
@[go_sem] theorem tA197 : isAggT Tryz.prog 197 = some false := by kernel_rfl
@[go_sem] theorem tU197 : Tryz.prog.underlying 197 = some (.int .i32) := by kernel_rfl
@[go_sem] theorem tZ197 : zeroC Tryz.prog 197 = some [.sc (.int .i32 0)] := by kernel_rfl
@[go_sem] theorem tS198 : csz Tryz.prog 198 = some 1 := by kernel_rfl
@[go_sem] theorem tB198 : byt Tryz.prog 198 = some 4 := by kernel_rfl
@[go_sem] theorem tA198 : isAggT Tryz.prog 198 = some false := by kernel_rfl
@[go_sem] theorem tU198 : Tryz.prog.underlying 198 = some (.int .i32) := by kernel_rfl
@[go_sem] theorem tZ198 : zeroC Tryz.prog 198 = some [.sc (.int .i32 0)] := by kernel_rfl
@[go_sem] theorem tS199 : csz Tryz.prog 199 = some 11 := by kernel_rfl
@[go_sem] theorem tB199 : byt Tryz.prog 199 = some 48 := by kernel_rfl
@[go_sem] theorem tA199 : isAggT Tryz.prog 199 = some true := by kernel_rfl
@[go_sem] theorem tP199 : placesOf Tryz.prog 199 = some [(0, 1), (1, 1), (2, 1), (3, 1), (4, 1), (5, 1), (6, 1), (7, 1), (8, 1), (9, 1), (10, 1)] := by kernel_rfl
@[go_sem] theorem tZ199 : zeroC Tryz.prog 199 = some [.sc (.int .u64 0), .sc (.int .u64 0), .sc (.int .u32 0), .sc (.int .u8 0), .sc (.int .u8 0), .sc (.int .u8 0), .sc (.int .u8 0), .sc (.nilFunc), .sc (.pointer none), .sc (.int .i32 0), .sc (.int .i32 0)] := by kernel_rfl
@[go_sem] theorem tS200 : csz Tryz.prog 200 = some 11 := by kernel_rfl
@[go_sem] theorem tB200 : byt Tryz.prog 200 = some 48 := by kernel_rfl
@[go_sem] theorem tA200 : isAggT Tryz.prog 200 = some true := by kernel_rfl
@[go_sem] theorem tP200 : placesOf Tryz.prog 200 = some [(0, 1), (1, 1), (2, 1), (3, 1), (4, 1), (5, 1), (6, 1), (7, 1), (8, 1), (9, 1), (10, 1)] := by kernel_rfl
@[go_sem] theorem tZ200 : zeroC Tryz.prog 200 = some [.sc (.int .u64 0), .sc (.int .u64 0), .sc (.int .u32 0), .sc (.int .u8 0), .sc (.int .u8 0), .sc (.int .u8 0), .sc (.int .u8 0), .sc (.nilFunc), .sc (.pointer none), .sc (.int .i32 0), .sc (.int .i32 0)] := by kernel_rfl
@[go_sem] theorem tS201 : csz Tryz.prog 201 = some 1 := by kernel_rfl
@[go_sem] theorem tB201 : byt Tryz.prog 201 = some 8 := by kernel_rfl
@[go_sem] theorem tA201 : isAggT Tryz.prog 201 = some false := by kernel_rfl
@[go_sem] theorem tZ201 : zeroC Tryz.prog 201 = some [.sc (.nilFunc)] := by kernel_rfl
@[go_sem] theorem tS202 : csz Tryz.prog 202 = some 1 := by kernel_rfl
@[go_sem] theorem tB202 : byt Tryz.prog 202 = some 8 := by kernel_rfl
@[go_sem] theorem tA202 : isAggT Tryz.prog 202 = some false := by kernel_rfl
@[go_sem] theorem tZ202 : zeroC Tryz.prog 202 = some [.sc (.nilFunc)] := by kernel_rfl
@[go_sem] theorem tS203 : csz Tryz.prog 203 = some 2 := by kernel_rfl
@[go_sem] theorem tB203 : byt Tryz.prog 203 = some 24 := by kernel_rfl
@[go_sem] theorem tA203 : isAggT Tryz.prog 203 = some true := by kernel_rfl
@[go_sem] theorem tP203 : placesOf Tryz.prog 203 = some [(0, 1), (1, 1)] := by kernel_rfl
@[go_sem] theorem tZ203 : zeroC Tryz.prog 203 = some [.sc (.string ByteArray.empty), .sc (.int .u8 0)] := by kernel_rfl
@[go_sem] theorem tS204 : csz Tryz.prog 204 = some 2 := by kernel_rfl
@[go_sem] theorem tB204 : byt Tryz.prog 204 = some 24 := by kernel_rfl
@[go_sem] theorem tA204 : isAggT Tryz.prog 204 = some true := by kernel_rfl
@[go_sem] theorem tP204 : placesOf Tryz.prog 204 = some [(0, 1), (1, 1)] := by kernel_rfl
@[go_sem] theorem tZ204 : zeroC Tryz.prog 204 = some [.sc (.string ByteArray.empty), .sc (.int .u8 0)] := by kernel_rfl
@[go_sem] theorem tS205 : csz Tryz.prog 205 = some 1 := by kernel_rfl
@[go_sem] theorem tB205 : byt Tryz.prog 205 = some 8 := by kernel_rfl
@[go_sem] theorem tA205 : isAggT Tryz.prog 205 = some false := by kernel_rfl
@[go_sem] theorem tU205 : Tryz.prog.underlying 205 = some (.pointer 208) := by kernel_rfl
@[go_sem] theorem tZ205 : zeroC Tryz.prog 205 = some [.sc (.pointer none)] := by kernel_rfl
@[go_sem] theorem tS206 : csz Tryz.prog 206 = some 1 := by kernel_rfl
@[go_sem] theorem tB206 : byt Tryz.prog 206 = some 8 := by kernel_rfl
@[go_sem] theorem tA206 : isAggT Tryz.prog 206 = some false := by kernel_rfl
@[go_sem] theorem tZ206 : zeroC Tryz.prog 206 = some [.sc (.nilFunc)] := by kernel_rfl
@[go_sem] theorem tS207 : csz Tryz.prog 207 = some 5 := by kernel_rfl
@[go_sem] theorem tB207 : byt Tryz.prog 207 = some 16 := by kernel_rfl
@[go_sem] theorem tA207 : isAggT Tryz.prog 207 = some true := by kernel_rfl
@[go_sem] theorem tP207 : placesOf Tryz.prog 207 = some [(0, 1), (1, 1), (2, 1), (3, 1), (4, 1)] := by kernel_rfl
@[go_sem] theorem tZ207 : zeroC Tryz.prog 207 = some [.sc (.int .i32 0), .sc (.int .u16 0), .sc (.int .u16 0), .sc (.int .u32 0), .sc (.int .u32 0)] := by kernel_rfl
@[go_sem] theorem tS208 : csz Tryz.prog 208 = some 5 := by kernel_rfl
@[go_sem] theorem tB208 : byt Tryz.prog 208 = some 16 := by kernel_rfl
@[go_sem] theorem tA208 : isAggT Tryz.prog 208 = some true := by kernel_rfl
@[go_sem] theorem tP208 : placesOf Tryz.prog 208 = some [(0, 1), (1, 1), (2, 1), (3, 1), (4, 1)] := by kernel_rfl
@[go_sem] theorem tZ208 : zeroC Tryz.prog 208 = some [.sc (.int .i32 0), .sc (.int .u16 0), .sc (.int .u16 0), .sc (.int .u32 0), .sc (.int .u32 0)] := by kernel_rfl
@[go_sem] theorem tS209 : csz Tryz.prog 209 = some 1 := by kernel_rfl
@[go_sem] theorem tB209 : byt Tryz.prog 209 = some 24 := by kernel_rfl
@[go_sem] theorem tA209 : isAggT Tryz.prog 209 = some false := by kernel_rfl
@[go_sem] theorem tU209 : Tryz.prog.underlying 209 = some (.slice 212) := by kernel_rfl
@[go_sem] theorem tZ209 : zeroC Tryz.prog 209 = some [.sc (.slice none 0 0)] := by kernel_rfl
@[go_sem] theorem tS210 : csz Tryz.prog 210 = some 1 := by kernel_rfl
@[go_sem] theorem tB210 : byt Tryz.prog 210 = some 4 := by kernel_rfl
@[go_sem] theorem tA210 : isAggT Tryz.prog 210 = some false := by kernel_rfl
@[go_sem] theorem tU210 : Tryz.prog.underlying 210 = some (.int .i32) := by kernel_rfl
@[go_sem] theorem tZ210 : zeroC Tryz.prog 210 = some [.sc (.int .i32 0)] := by kernel_rfl
@[go_sem] theorem tS211 : csz Tryz.prog 211 = some 4 := by kernel_rfl
@[go_sem] theorem tB211 : byt Tryz.prog 211 = some 16 := by kernel_rfl
@[go_sem] theorem tA211 : isAggT Tryz.prog 211 = some true := by kernel_rfl
@[go_sem] theorem tP211 : placesOf Tryz.prog 211 = some [(0, 1), (1, 1), (2, 1), (3, 1)] := by kernel_rfl
@[go_sem] theorem tZ211 : zeroC Tryz.prog 211 = some [.sc (.int .i32 0), .sc (.int .i32 0), .sc (.int .i32 0), .sc (.int .i32 0)] := by kernel_rfl
@[go_sem] theorem tS212 : csz Tryz.prog 212 = some 4 := by kernel_rfl
@[go_sem] theorem tB212 : byt Tryz.prog 212 = some 16 := by kernel_rfl
@[go_sem] theorem tA212 : isAggT Tryz.prog 212 = some true := by kernel_rfl
@[go_sem] theorem tP212 : placesOf Tryz.prog 212 = some [(0, 1), (1, 1), (2, 1), (3, 1)] := by kernel_rfl
@[go_sem] theorem tZ212 : zeroC Tryz.prog 212 = some [.sc (.int .i32 0), .sc (.int .i32 0), .sc (.int .i32 0), .sc (.int .i32 0)] := by kernel_rfl
@[go_sem] theorem tS213 : csz Tryz.prog 213 = some 1 := by kernel_rfl
@[go_sem] theorem tB213 : byt Tryz.prog 213 = some 8 := by kernel_rfl
@[go_sem] theorem tA213 : isAggT Tryz.prog 213 = some false := by kernel_rfl
@[go_sem] theorem tU213 : Tryz.prog.underlying 213 = some (.pointer 57) := by kernel_rfl
@[go_sem] theorem tZ213 : zeroC Tryz.prog 213 = some [.sc (.pointer none)] := by kernel_rfl
end Go.Proofs.YtfmpakmigmehkaaGreatDoor
