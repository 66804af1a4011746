import Derived.Test.YtmnbicoeahlpcaaFl20
import Derived.Test.YtmnbicoeahlpcaaProg
namespace Go.Proofs.Ytmnbicoeahlpcaa
open Go Go.Fl Go.Proofs
theorem mixed : Try.prog.follows .mixedOrders = true := by kernel_rfl
@[go_sem] theorem tS0 : csz Try.prog 0 = some 1 := by kernel_rfl
@[go_sem] theorem tB0 : byt Try.prog 0 = some 0 := by kernel_rfl
@[go_sem] theorem tA0 : isAggT Try.prog 0 = some false := by kernel_rfl
@[go_sem] theorem tS1 : csz Try.prog 1 = some 1 := by kernel_rfl
@[go_sem] theorem tB1 : byt Try.prog 1 = some 8 := by kernel_rfl
@[go_sem] theorem tA1 : isAggT Try.prog 1 = some false := by kernel_rfl
@[go_sem] theorem tZ1 : zeroC Try.prog 1 = some [.sc (.nilFunc)] := by kernel_rfl
@[go_sem] theorem tS2 : csz Try.prog 2 = some 1 := by kernel_rfl
@[go_sem] theorem tB2 : byt Try.prog 2 = some 8 := by kernel_rfl
@[go_sem] theorem tA2 : isAggT Try.prog 2 = some false := by kernel_rfl
@[go_sem] theorem tU2 : Try.prog.underlying 2 = some (.int .i64) := by kernel_rfl
@[go_sem] theorem tZ2 : zeroC Try.prog 2 = some [.sc (.int .i64 0)] := by kernel_rfl
@[go_sem] theorem tS3 : csz Try.prog 3 = some 1 := by kernel_rfl
@[go_sem] theorem tB3 : byt Try.prog 3 = some 8 := by kernel_rfl
@[go_sem] theorem tA3 : isAggT Try.prog 3 = some false := by kernel_rfl
@[go_sem] theorem tU3 : Try.prog.underlying 3 = some (.int .i64) := by kernel_rfl
@[go_sem] theorem tZ3 : zeroC Try.prog 3 = some [.sc (.int .i64 0)] := by kernel_rfl
@[go_sem] theorem tS4 : csz Try.prog 4 = some 1 := by kernel_rfl
@[go_sem] theorem tB4 : byt Try.prog 4 = some 1 := by kernel_rfl
@[go_sem] theorem tA4 : isAggT Try.prog 4 = some false := by kernel_rfl
@[go_sem] theorem tZ4 : zeroC Try.prog 4 = some [.sc (.bool false)] := by kernel_rfl
@[go_sem] theorem tS5 : csz Try.prog 5 = some 1 := by kernel_rfl
@[go_sem] theorem tB5 : byt Try.prog 5 = some 1 := by kernel_rfl
@[go_sem] theorem tA5 : isAggT Try.prog 5 = some false := by kernel_rfl
@[go_sem] theorem tU5 : Try.prog.underlying 5 = some (.int .u8) := by kernel_rfl
@[go_sem] theorem tZ5 : zeroC Try.prog 5 = some [.sc (.int .u8 0)] := by kernel_rfl
@[go_sem] theorem tS6 : csz Try.prog 6 = some 1 := by kernel_rfl
@[go_sem] theorem tB6 : byt Try.prog 6 = some 1 := by kernel_rfl
@[go_sem] theorem tA6 : isAggT Try.prog 6 = some false := by kernel_rfl
@[go_sem] theorem tU6 : Try.prog.underlying 6 = some (.int .u8) := by kernel_rfl
@[go_sem] theorem tZ6 : zeroC Try.prog 6 = some [.sc (.int .u8 0)] := by kernel_rfl
@[go_sem] theorem tS7 : csz Try.prog 7 = some 4 := by kernel_rfl
@[go_sem] theorem tB7 : byt Try.prog 7 = some 24 := by kernel_rfl
@[go_sem] theorem tA7 : isAggT Try.prog 7 = some true := by kernel_rfl
@[go_sem] theorem tP7 : placesOf Try.prog 7 = some [(0, 1), (1, 1), (2, 1), (3, 1)] := by kernel_rfl
@[go_sem] theorem tZ7 : zeroC Try.prog 7 = some [.sc (.int .i64 0), .sc (.int .i64 0), .sc (.bool false), .sc (.int .u8 0)] := by kernel_rfl
@[go_sem] theorem tS8 : csz Try.prog 8 = some 4 := by kernel_rfl
@[go_sem] theorem tB8 : byt Try.prog 8 = some 24 := by kernel_rfl
@[go_sem] theorem tA8 : isAggT Try.prog 8 = some true := by kernel_rfl
@[go_sem] theorem tP8 : placesOf Try.prog 8 = some [(0, 1), (1, 1), (2, 1), (3, 1)] := by kernel_rfl
@[go_sem] theorem tZ8 : zeroC Try.prog 8 = some [.sc (.int .i64 0), .sc (.int .i64 0), .sc (.bool false), .sc (.int .u8 0)] := by kernel_rfl
@[go_sem] theorem tS9 : csz Try.prog 9 = some 1 := by kernel_rfl
@[go_sem] theorem tB9 : byt Try.prog 9 = some 16 := by kernel_rfl
@[go_sem] theorem tA9 : isAggT Try.prog 9 = some false := by kernel_rfl
@[go_sem] theorem tU9 : Try.prog.underlying 9 = some .string := by kernel_rfl
@[go_sem] theorem tZ9 : zeroC Try.prog 9 = some [.sc (.string ByteArray.empty)] := by kernel_rfl
@[go_sem] theorem tS10 : csz Try.prog 10 = some 1 := by kernel_rfl
@[go_sem] theorem tB10 : byt Try.prog 10 = some 16 := by kernel_rfl
@[go_sem] theorem tA10 : isAggT Try.prog 10 = some false := by kernel_rfl
@[go_sem] theorem tU10 : Try.prog.underlying 10 = some .string := by kernel_rfl
@[go_sem] theorem tZ10 : zeroC Try.prog 10 = some [.sc (.string ByteArray.empty)] := by kernel_rfl
@[go_sem] theorem tS11 : csz Try.prog 11 = some 1 := by kernel_rfl
@[go_sem] theorem tB11 : byt Try.prog 11 = some 16 := by kernel_rfl
@[go_sem] theorem tA11 : isAggT Try.prog 11 = some false := by kernel_rfl
@[go_sem] theorem tU11 : Try.prog.underlying 11 = some .string := by kernel_rfl
@[go_sem] theorem tZ11 : zeroC Try.prog 11 = some [.sc (.string ByteArray.empty)] := by kernel_rfl
@[go_sem] theorem tS12 : csz Try.prog 12 = some 1 := by kernel_rfl
@[go_sem] theorem tB12 : byt Try.prog 12 = some 8 := by kernel_rfl
@[go_sem] theorem tA12 : isAggT Try.prog 12 = some false := by kernel_rfl
@[go_sem] theorem tU12 : Try.prog.underlying 12 = some (.int .u64) := by kernel_rfl
@[go_sem] theorem tZ12 : zeroC Try.prog 12 = some [.sc (.int .u64 0)] := by kernel_rfl
@[go_sem] theorem tS13 : csz Try.prog 13 = some 2 := by kernel_rfl
@[go_sem] theorem tB13 : byt Try.prog 13 = some 24 := by kernel_rfl
@[go_sem] theorem tA13 : isAggT Try.prog 13 = some true := by kernel_rfl
@[go_sem] theorem tP13 : placesOf Try.prog 13 = some [(0, 1), (1, 1)] := by kernel_rfl
@[go_sem] theorem tZ13 : zeroC Try.prog 13 = some [.sc (.string ByteArray.empty), .sc (.int .u64 0)] := by kernel_rfl
@[go_sem] theorem tS14 : csz Try.prog 14 = some 2 := by kernel_rfl
@[go_sem] theorem tB14 : byt Try.prog 14 = some 24 := by kernel_rfl
@[go_sem] theorem tA14 : isAggT Try.prog 14 = some true := by kernel_rfl
@[go_sem] theorem tP14 : placesOf Try.prog 14 = some [(0, 1), (1, 1)] := by kernel_rfl
@[go_sem] theorem tZ14 : zeroC Try.prog 14 = some [.sc (.string ByteArray.empty), .sc (.int .u64 0)] := by kernel_rfl
@[go_sem] theorem tS15 : csz Try.prog 15 = some 1 := by kernel_rfl
@[go_sem] theorem tB15 : byt Try.prog 15 = some 8 := by kernel_rfl
@[go_sem] theorem tA15 : isAggT Try.prog 15 = some false := by kernel_rfl
@[go_sem] theorem tU15 : Try.prog.underlying 15 = some (.pointer 112) := by kernel_rfl
@[go_sem] theorem tZ15 : zeroC Try.prog 15 = some [.sc (.pointer none)] := by kernel_rfl
@[go_sem] theorem tS16 : csz Try.prog 16 = some 1 := by kernel_rfl
@[go_sem] theorem tB16 : byt Try.prog 16 = some 8 := by kernel_rfl
@[go_sem] theorem tA16 : isAggT Try.prog 16 = some false := by kernel_rfl
@[go_sem] theorem tU16 : Try.prog.underlying 16 = some (.pointer 115) := by kernel_rfl
@[go_sem] theorem tZ16 : zeroC Try.prog 16 = some [.sc (.pointer none)] := by kernel_rfl
@[go_sem] theorem tS17 : csz Try.prog 17 = some 1 := by kernel_rfl
@[go_sem] theorem tB17 : byt Try.prog 17 = some 8 := by kernel_rfl
@[go_sem] theorem tA17 : isAggT Try.prog 17 = some false := by kernel_rfl
@[go_sem] theorem tU17 : Try.prog.underlying 17 = some (.pointer 124) := by kernel_rfl
@[go_sem] theorem tZ17 : zeroC Try.prog 17 = some [.sc (.pointer none)] := by kernel_rfl
@[go_sem] theorem tS18 : csz Try.prog 18 = some 1 := by kernel_rfl
@[go_sem] theorem tB18 : byt Try.prog 18 = some 8 := by kernel_rfl
@[go_sem] theorem tA18 : isAggT Try.prog 18 = some true := by kernel_rfl
@[go_sem] theorem tP18 : placesOf Try.prog 18 = some [(0, 1)] := by kernel_rfl
@[go_sem] theorem tZ18 : zeroC Try.prog 18 = some [.sc (.pointer none)] := by kernel_rfl
@[go_sem] theorem tS19 : csz Try.prog 19 = some 1 := by kernel_rfl
@[go_sem] theorem tB19 : byt Try.prog 19 = some 8 := by kernel_rfl
@[go_sem] theorem tA19 : isAggT Try.prog 19 = some true := by kernel_rfl
@[go_sem] theorem tP19 : placesOf Try.prog 19 = some [(0, 1)] := by kernel_rfl
@[go_sem] theorem tZ19 : zeroC Try.prog 19 = some [.sc (.pointer none)] := by kernel_rfl
@[go_sem] theorem tS20 : csz Try.prog 20 = some 1 := by kernel_rfl
@[go_sem] theorem tB20 : byt Try.prog 20 = some 16 := by kernel_rfl
@[go_sem] theorem tA20 : isAggT Try.prog 20 = some false := by kernel_rfl
@[go_sem] theorem tZ20 : zeroC Try.prog 20 = some [.sc (.nilIface)] := by kernel_rfl
@[go_sem] theorem tS21 : csz Try.prog 21 = some 1 := by kernel_rfl
@[go_sem] theorem tB21 : byt Try.prog 21 = some 4 := by kernel_rfl
@[go_sem] theorem tA21 : isAggT Try.prog 21 = some false := by kernel_rfl
@[go_sem] theorem tU21 : Try.prog.underlying 21 = some (.int .i32) := by kernel_rfl
@[go_sem] theorem tZ21 : zeroC Try.prog 21 = some [.sc (.int .i32 0)] := by kernel_rfl
@[go_sem] theorem tS22 : csz Try.prog 22 = some 1 := by kernel_rfl
@[go_sem] theorem tB22 : byt Try.prog 22 = some 8 := by kernel_rfl
@[go_sem] theorem tA22 : isAggT Try.prog 22 = some false := by kernel_rfl
@[go_sem] theorem tZ22 : zeroC Try.prog 22 = some [.sc (.nilFunc)] := by kernel_rfl
@[go_sem] theorem tS23 : csz Try.prog 23 = some 1 := by kernel_rfl
@[go_sem] theorem tB23 : byt Try.prog 23 = some 24 := by kernel_rfl
@[go_sem] theorem tA23 : isAggT Try.prog 23 = some false := by kernel_rfl
@[go_sem] theorem tU23 : Try.prog.underlying 23 = some (.slice 36) := by kernel_rfl
@[go_sem] theorem tZ23 : zeroC Try.prog 23 = some [.sc (.slice none 0 0)] := by kernel_rfl
@[go_sem] theorem tS24 : csz Try.prog 24 = some 1 := by kernel_rfl
@[go_sem] theorem tB24 : byt Try.prog 24 = some 8 := by kernel_rfl
@[go_sem] theorem tA24 : isAggT Try.prog 24 = some false := by kernel_rfl
@[go_sem] theorem tZ24 : zeroC Try.prog 24 = some [.sc (.nilFunc)] := by kernel_rfl
@[go_sem] theorem tS25 : csz Try.prog 25 = some 1 := by kernel_rfl
@[go_sem] theorem tB25 : byt Try.prog 25 = some 24 := by kernel_rfl
@[go_sem] theorem tA25 : isAggT Try.prog 25 = some false := by kernel_rfl
@[go_sem] theorem tU25 : Try.prog.underlying 25 = some (.slice 5) := by kernel_rfl
@[go_sem] theorem tZ25 : zeroC Try.prog 25 = some [.sc (.slice none 0 0)] := by kernel_rfl
@[go_sem] theorem tS26 : csz Try.prog 26 = some 2 := by kernel_rfl
@[go_sem] theorem tB26 : byt Try.prog 26 = some 32 := by kernel_rfl
@[go_sem] theorem tA26 : isAggT Try.prog 26 = some true := by kernel_rfl
@[go_sem] theorem tP26 : placesOf Try.prog 26 = some [(0, 1), (1, 1)] := by kernel_rfl
@[go_sem] theorem tZ26 : zeroC Try.prog 26 = some [.sc (.int .i64 0), .sc (.slice none 0 0)] := by kernel_rfl
@[go_sem] theorem tS27 : csz Try.prog 27 = some 2 := by kernel_rfl
@[go_sem] theorem tB27 : byt Try.prog 27 = some 32 := by kernel_rfl
@[go_sem] theorem tA27 : isAggT Try.prog 27 = some true := by kernel_rfl
@[go_sem] theorem tP27 : placesOf Try.prog 27 = some [(0, 1), (1, 1)] := by kernel_rfl
@[go_sem] theorem tZ27 : zeroC Try.prog 27 = some [.sc (.int .i64 0), .sc (.slice none 0 0)] := by kernel_rfl
@[go_sem] theorem tS28 : csz Try.prog 28 = some 3 := by kernel_rfl
@[go_sem] theorem tB28 : byt Try.prog 28 = some 40 := by kernel_rfl
@[go_sem] theorem tA28 : isAggT Try.prog 28 = some true := by kernel_rfl
@[go_sem] theorem tP28 : placesOf Try.prog 28 = some [(0, 1), (1, 2)] := by kernel_rfl
@[go_sem] theorem tZ28 : zeroC Try.prog 28 = some [.sc (.int .i64 0), .sc (.int .i64 0), .sc (.slice none 0 0)] := by kernel_rfl
@[go_sem] theorem tS29 : csz Try.prog 29 = some 3 := by kernel_rfl
@[go_sem] theorem tB29 : byt Try.prog 29 = some 40 := by kernel_rfl
@[go_sem] theorem tA29 : isAggT Try.prog 29 = some true := by kernel_rfl
@[go_sem] theorem tP29 : placesOf Try.prog 29 = some [(0, 1), (1, 2)] := by kernel_rfl
@[go_sem] theorem tZ29 : zeroC Try.prog 29 = some [.sc (.int .i64 0), .sc (.int .i64 0), .sc (.slice none 0 0)] := by kernel_rfl
@[go_sem] theorem tS30 : csz Try.prog 30 = some 1 := by kernel_rfl
@[go_sem] theorem tB30 : byt Try.prog 30 = some 8 := by kernel_rfl
@[go_sem] theorem tA30 : isAggT Try.prog 30 = some false := by kernel_rfl
@[go_sem] theorem tZ30 : zeroC Try.prog 30 = some [.sc (.nilFunc)] := by kernel_rfl
@[go_sem] theorem tS31 : csz Try.prog 31 = some 1 := by kernel_rfl
@[go_sem] theorem tB31 : byt Try.prog 31 = some 24 := by kernel_rfl
@[go_sem] theorem tA31 : isAggT Try.prog 31 = some false := by kernel_rfl
@[go_sem] theorem tU31 : Try.prog.underlying 31 = some (.slice 29) := by kernel_rfl
@[go_sem] theorem tZ31 : zeroC Try.prog 31 = some [.sc (.slice none 0 0)] := by kernel_rfl
@[go_sem] theorem tS32 : csz Try.prog 32 = some 1 := by kernel_rfl
@[go_sem] theorem tB32 : byt Try.prog 32 = some 8 := by kernel_rfl
@[go_sem] theorem tA32 : isAggT Try.prog 32 = some false := by kernel_rfl
@[go_sem] theorem tZ32 : zeroC Try.prog 32 = some [.sc (.nilFunc)] := by kernel_rfl
@[go_sem] theorem tS33 : csz Try.prog 33 = some 1 := by kernel_rfl
@[go_sem] theorem tB33 : byt Try.prog 33 = some 8 := by kernel_rfl
@[go_sem] theorem tA33 : isAggT Try.prog 33 = some false := by kernel_rfl
@[go_sem] theorem tZ33 : zeroC Try.prog 33 = some [.sc (.nilFunc)] := by kernel_rfl
@[go_sem] theorem tS34 : csz Try.prog 34 = some 2 := by kernel_rfl
@[go_sem] theorem tB34 : byt Try.prog 34 = some 32 := by kernel_rfl
@[go_sem] theorem tA34 : isAggT Try.prog 34 = some true := by kernel_rfl
@[go_sem] theorem tP34 : placesOf Try.prog 34 = some [(0, 1), (1, 1)] := by kernel_rfl
@[go_sem] theorem tZ34 : zeroC Try.prog 34 = some [.sc (.int .i64 0), .sc (.slice none 0 0)] := by kernel_rfl
@[go_sem] theorem tS35 : csz Try.prog 35 = some 3 := by kernel_rfl
@[go_sem] theorem tB35 : byt Try.prog 35 = some 40 := by kernel_rfl
@[go_sem] theorem tA35 : isAggT Try.prog 35 = some true := by kernel_rfl
@[go_sem] theorem tP35 : placesOf Try.prog 35 = some [(0, 1), (1, 2)] := by kernel_rfl
@[go_sem] theorem tZ35 : zeroC Try.prog 35 = some [.sc (.int .i64 0), .sc (.int .i64 0), .sc (.slice none 0 0)] := by kernel_rfl
@[go_sem] theorem tS36 : csz Try.prog 36 = some 3 := by kernel_rfl
@[go_sem] theorem tB36 : byt Try.prog 36 = some 40 := by kernel_rfl
@[go_sem] theorem tA36 : isAggT Try.prog 36 = some true := by kernel_rfl
@[go_sem] theorem tP36 : placesOf Try.prog 36 = some [(0, 1), (1, 2)] := by kernel_rfl
@[go_sem] theorem tZ36 : zeroC Try.prog 36 = some [.sc (.int .i64 0), .sc (.int .i64 0), .sc (.slice none 0 0)] := by kernel_rfl
@[go_sem] theorem tS37 : csz Try.prog 37 = some 1 := by kernel_rfl
@[go_sem] theorem tB37 : byt Try.prog 37 = some 8 := by kernel_rfl
@[go_sem] theorem tA37 : isAggT Try.prog 37 = some false := by kernel_rfl
@[go_sem] theorem tZ37 : zeroC Try.prog 37 = some [.sc (.nilFunc)] := by kernel_rfl
@[go_sem] theorem tS38 : csz Try.prog 38 = some 1 := by kernel_rfl
@[go_sem] theorem tB38 : byt Try.prog 38 = some 8 := by kernel_rfl
@[go_sem] theorem tA38 : isAggT Try.prog 38 = some false := by kernel_rfl
@[go_sem] theorem tZ38 : zeroC Try.prog 38 = some [.sc (.nilFunc)] := by kernel_rfl
@[go_sem] theorem tS39 : csz Try.prog 39 = some 1 := by kernel_rfl
@[go_sem] theorem tB39 : byt Try.prog 39 = some 8 := by kernel_rfl
@[go_sem] theorem tA39 : isAggT Try.prog 39 = some false := by kernel_rfl
@[go_sem] theorem tZ39 : zeroC Try.prog 39 = some [.sc (.nilFunc)] := by kernel_rfl
@[go_sem] theorem tS40 : csz Try.prog 40 = some 1 := by kernel_rfl
@[go_sem] theorem tB40 : byt Try.prog 40 = some 8 := by kernel_rfl
@[go_sem] theorem tA40 : isAggT Try.prog 40 = some false := by kernel_rfl
@[go_sem] theorem tZ40 : zeroC Try.prog 40 = some [.sc (.nilFunc)] := by kernel_rfl
@[go_sem] theorem tS41 : csz Try.prog 41 = some 1 := by kernel_rfl
@[go_sem] theorem tB41 : byt Try.prog 41 = some 8 := by kernel_rfl
@[go_sem] theorem tA41 : isAggT Try.prog 41 = some false := by kernel_rfl
@[go_sem] theorem tZ41 : zeroC Try.prog 41 = some [.sc (.nilFunc)] := by kernel_rfl
@[go_sem] theorem tS42 : csz Try.prog 42 = some 1 := by kernel_rfl
@[go_sem] theorem tB42 : byt Try.prog 42 = some 8 := by kernel_rfl
@[go_sem] theorem tA42 : isAggT Try.prog 42 = some false := by kernel_rfl
@[go_sem] theorem tZ42 : zeroC Try.prog 42 = some [.sc (.nilFunc)] := by kernel_rfl
@[go_sem] theorem tS43 : csz Try.prog 43 = some 1 := by kernel_rfl
@[go_sem] theorem tB43 : byt Try.prog 43 = some 8 := by kernel_rfl
@[go_sem] theorem tA43 : isAggT Try.prog 43 = some false := by kernel_rfl
@[go_sem] theorem tZ43 : zeroC Try.prog 43 = some [.sc (.nilFunc)] := by kernel_rfl
@[go_sem] theorem tS44 : csz Try.prog 44 = some 1 := by kernel_rfl
@[go_sem] theorem tB44 : byt Try.prog 44 = some 8 := by kernel_rfl
@[go_sem] theorem tA44 : isAggT Try.prog 44 = some false := by kernel_rfl
@[go_sem] theorem tZ44 : zeroC Try.prog 44 = some [.sc (.nilFunc)] := by kernel_rfl
@[go_sem] theorem tS45 : csz Try.prog 45 = some 1 := by kernel_rfl
@[go_sem] theorem tB45 : byt Try.prog 45 = some 8 := by kernel_rfl
@[go_sem] theorem tA45 : isAggT Try.prog 45 = some false := by kernel_rfl
@[go_sem] theorem tZ45 : zeroC Try.prog 45 = some [.sc (.nilFunc)] := by kernel_rfl
@[go_sem] theorem tS46 : csz Try.prog 46 = some 1 := by kernel_rfl
@[go_sem] theorem tB46 : byt Try.prog 46 = some 24 := by kernel_rfl
@[go_sem] theorem tA46 : isAggT Try.prog 46 = some false := by kernel_rfl
@[go_sem] theorem tU46 : Try.prog.underlying 46 = some (.slice 70) := by kernel_rfl
@[go_sem] theorem tZ46 : zeroC Try.prog 46 = some [.sc (.slice none 0 0)] := by kernel_rfl
@[go_sem] theorem tS47 : csz Try.prog 47 = some 1 := by kernel_rfl
@[go_sem] theorem tB47 : byt Try.prog 47 = some 8 := by kernel_rfl
@[go_sem] theorem tA47 : isAggT Try.prog 47 = some false := by kernel_rfl
@[go_sem] theorem tZ47 : zeroC Try.prog 47 = some [.sc (.nilFunc)] := by kernel_rfl
@[go_sem] theorem tS48 : csz Try.prog 48 = some 1 := by kernel_rfl
@[go_sem] theorem tB48 : byt Try.prog 48 = some 4 := by kernel_rfl
@[go_sem] theorem tA48 : isAggT Try.prog 48 = some false := by kernel_rfl
@[go_sem] theorem tU48 : Try.prog.underlying 48 = some (.int .u32) := by kernel_rfl
@[go_sem] theorem tZ48 : zeroC Try.prog 48 = some [.sc (.int .u32 0)] := by kernel_rfl
@[go_sem] theorem tS49 : csz Try.prog 49 = some 18 := by kernel_rfl
@[go_sem] theorem tB49 : byt Try.prog 49 = some 112 := by kernel_rfl
@[go_sem] theorem tA49 : isAggT Try.prog 49 = some true := by kernel_rfl
@[go_sem] theorem tP49 : placesOf Try.prog 49 = some [(0, 1), (1, 1), (2, 1), (3, 1), (4, 1), (5, 1), (6, 1), (7, 1), (8, 1), (9, 1), (10, 1), (11, 1), (12, 1), (13, 1), (14, 1), (15, 1), (16, 1), (17, 1)] := by kernel_rfl
@[go_sem] theorem tZ49 : zeroC Try.prog 49 = some [.sc (.bool false), .sc (.string ByteArray.empty), .sc (.string ByteArray.empty), .sc (.int .i64 0), .sc (.bool false), .sc (.bool false), .sc (.int .u32 0), .sc (.int .i64 0), .sc (.bool false), .sc (.int .i64 0), .sc (.bool false), .sc (.bool false), .sc (.bool false), .sc (.bool false), .sc (.bool false), .sc (.int .i64 0), .sc (.int .i64 0), .sc (.int .i64 0)] := by kernel_rfl
@[go_sem] theorem tS50 : csz Try.prog 50 = some 18 := by kernel_rfl
@[go_sem] theorem tB50 : byt Try.prog 50 = some 112 := by kernel_rfl
@[go_sem] theorem tA50 : isAggT Try.prog 50 = some true := by kernel_rfl
@[go_sem] theorem tP50 : placesOf Try.prog 50 = some [(0, 1), (1, 1), (2, 1), (3, 1), (4, 1), (5, 1), (6, 1), (7, 1), (8, 1), (9, 1), (10, 1), (11, 1), (12, 1), (13, 1), (14, 1), (15, 1), (16, 1), (17, 1)] := by kernel_rfl
@[go_sem] theorem tZ50 : zeroC Try.prog 50 = some [.sc (.bool false), .sc (.string ByteArray.empty), .sc (.string ByteArray.empty), .sc (.int .i64 0), .sc (.bool false), .sc (.bool false), .sc (.int .u32 0), .sc (.int .i64 0), .sc (.bool false), .sc (.int .i64 0), .sc (.bool false), .sc (.bool false), .sc (.bool false), .sc (.bool false), .sc (.bool false), .sc (.int .i64 0), .sc (.int .i64 0), .sc (.int .i64 0)] := by kernel_rfl
@[go_sem] theorem tS51 : csz Try.prog 51 = some 1 := by kernel_rfl
@[go_sem] theorem tB51 : byt Try.prog 51 = some 8 := by kernel_rfl
@[go_sem] theorem tA51 : isAggT Try.prog 51 = some false := by kernel_rfl
@[go_sem] theorem tZ51 : zeroC Try.prog 51 = some [.sc (.nilFunc)] := by kernel_rfl
@[go_sem] theorem tS52 : csz Try.prog 52 = some 1 := by kernel_rfl
@[go_sem] theorem tB52 : byt Try.prog 52 = some 24 := by kernel_rfl
@[go_sem] theorem tA52 : isAggT Try.prog 52 = some false := by kernel_rfl
@[go_sem] theorem tU52 : Try.prog.underlying 52 = some (.slice 58) := by kernel_rfl
@[go_sem] theorem tZ52 : zeroC Try.prog 52 = some [.sc (.slice none 0 0)] := by kernel_rfl
@[go_sem] theorem tS53 : csz Try.prog 53 = some 1 := by kernel_rfl
@[go_sem] theorem tB53 : byt Try.prog 53 = some 8 := by kernel_rfl
@[go_sem] theorem tA53 : isAggT Try.prog 53 = some false := by kernel_rfl
@[go_sem] theorem tZ53 : zeroC Try.prog 53 = some [.sc (.nilFunc)] := by kernel_rfl
@[go_sem] theorem tS54 : csz Try.prog 54 = some 1 := by kernel_rfl
@[go_sem] theorem tB54 : byt Try.prog 54 = some 8 := by kernel_rfl
@[go_sem] theorem tA54 : isAggT Try.prog 54 = some false := by kernel_rfl
@[go_sem] theorem tZ54 : zeroC Try.prog 54 = some [.sc (.nilFunc)] := by kernel_rfl
@[go_sem] theorem tS55 : csz Try.prog 55 = some 1 := by kernel_rfl
@[go_sem] theorem tB55 : byt Try.prog 55 = some 24 := by kernel_rfl
@[go_sem] theorem tA55 : isAggT Try.prog 55 = some false := by kernel_rfl
@[go_sem] theorem tU55 : Try.prog.underlying 55 = some (.slice 81) := by kernel_rfl
@[go_sem] theorem tZ55 : zeroC Try.prog 55 = some [.sc (.slice none 0 0)] := by kernel_rfl
@[go_sem] theorem tS56 : csz Try.prog 56 = some 1 := by kernel_rfl
@[go_sem] theorem tB56 : byt Try.prog 56 = some 8 := by kernel_rfl
@[go_sem] theorem tA56 : isAggT Try.prog 56 = some false := by kernel_rfl
@[go_sem] theorem tZ56 : zeroC Try.prog 56 = some [.sc (.nilFunc)] := by kernel_rfl
@[go_sem] theorem tS57 : csz Try.prog 57 = some 7 := by kernel_rfl
@[go_sem] theorem tB57 : byt Try.prog 57 = some 72 := by kernel_rfl
@[go_sem] theorem tA57 : isAggT Try.prog 57 = some true := by kernel_rfl
@[go_sem] theorem tP57 : placesOf Try.prog 57 = some [(0, 1), (1, 1), (2, 1), (3, 1), (4, 1), (5, 1), (6, 1)] := by kernel_rfl
@[go_sem] theorem tZ57 : zeroC Try.prog 57 = some [.sc (.int .i64 0), .sc (.int .i64 0), .sc (.int .i64 0), .sc (.int .i64 0), .sc (.int .i64 0), .sc (.slice none 0 0), .sc (.bool false)] := by kernel_rfl
@[go_sem] theorem tS58 : csz Try.prog 58 = some 7 := by kernel_rfl
@[go_sem] theorem tB58 : byt Try.prog 58 = some 72 := by kernel_rfl
@[go_sem] theorem tA58 : isAggT Try.prog 58 = some true := by kernel_rfl
@[go_sem] theorem tP58 : placesOf Try.prog 58 = some [(0, 1), (1, 1), (2, 1), (3, 1), (4, 1), (5, 1), (6, 1)] := by kernel_rfl
@[go_sem] theorem tZ58 : zeroC Try.prog 58 = some [.sc (.int .i64 0), .sc (.int .i64 0), .sc (.int .i64 0), .sc (.int .i64 0), .sc (.int .i64 0), .sc (.slice none 0 0), .sc (.bool false)] := by kernel_rfl
@[go_sem] theorem tS59 : csz Try.prog 59 = some 1 := by kernel_rfl
@[go_sem] theorem tB59 : byt Try.prog 59 = some 8 := by kernel_rfl
@[go_sem] theorem tA59 : isAggT Try.prog 59 = some false := by kernel_rfl
@[go_sem] theorem tZ59 : zeroC Try.prog 59 = some [.sc (.nilFunc)] := by kernel_rfl
@[go_sem] theorem tS60 : csz Try.prog 60 = some 1 := by kernel_rfl
@[go_sem] theorem tB60 : byt Try.prog 60 = some 8 := by kernel_rfl
@[go_sem] theorem tA60 : isAggT Try.prog 60 = some false := by kernel_rfl
@[go_sem] theorem tZ60 : zeroC Try.prog 60 = some [.sc (.nilFunc)] := by kernel_rfl
@[go_sem] theorem tS61 : csz Try.prog 61 = some 1 := by kernel_rfl
@[go_sem] theorem tB61 : byt Try.prog 61 = some 8 := by kernel_rfl
@[go_sem] theorem tA61 : isAggT Try.prog 61 = some false := by kernel_rfl
@[go_sem] theorem tZ61 : zeroC Try.prog 61 = some [.sc (.nilFunc)] := by kernel_rfl
@[go_sem] theorem tS62 : csz Try.prog 62 = some 1 := by kernel_rfl
@[go_sem] theorem tB62 : byt Try.prog 62 = some 8 := by kernel_rfl
@[go_sem] theorem tA62 : isAggT Try.prog 62 = some false := by kernel_rfl
@[go_sem] theorem tZ62 : zeroC Try.prog 62 = some [.sc (.nilFunc)] := by kernel_rfl
@[go_sem] theorem tS63 : csz Try.prog 63 = some 4 := by kernel_rfl
@[go_sem] theorem tB63 : byt Try.prog 63 = some 16 := by kernel_rfl
@[go_sem] theorem tA63 : isAggT Try.prog 63 = some true := by kernel_rfl
@[go_sem] theorem tP63 : placesOf Try.prog 63 = some [(0, 1), (1, 1), (2, 1), (3, 1)] := by kernel_rfl
@[go_sem] theorem tZ63 : zeroC Try.prog 63 = some [.sc (.int .i64 0), .sc (.bool false), .sc (.bool false), .sc (.bool false)] := by kernel_rfl
@[go_sem] theorem tS64 : csz Try.prog 64 = some 4 := by kernel_rfl
@[go_sem] theorem tB64 : byt Try.prog 64 = some 16 := by kernel_rfl
@[go_sem] theorem tA64 : isAggT Try.prog 64 = some true := by kernel_rfl
@[go_sem] theorem tP64 : placesOf Try.prog 64 = some [(0, 1), (1, 1), (2, 1), (3, 1)] := by kernel_rfl
@[go_sem] theorem tZ64 : zeroC Try.prog 64 = some [.sc (.int .i64 0), .sc (.bool false), .sc (.bool false), .sc (.bool false)] := by kernel_rfl
@[go_sem] theorem tS65 : csz Try.prog 65 = some 1 := by kernel_rfl
@[go_sem] theorem tB65 : byt Try.prog 65 = some 8 := by kernel_rfl
@[go_sem] theorem tA65 : isAggT Try.prog 65 = some false := by kernel_rfl
@[go_sem] theorem tZ65 : zeroC Try.prog 65 = some [.sc (.nilFunc)] := by kernel_rfl
@[go_sem] theorem tS66 : csz Try.prog 66 = some 4 := by kernel_rfl
@[go_sem] theorem tB66 : byt Try.prog 66 = some 16 := by kernel_rfl
@[go_sem] theorem tA66 : isAggT Try.prog 66 = some true := by kernel_rfl
@[go_sem] theorem tP66 : placesOf Try.prog 66 = some [(0, 1), (1, 1), (2, 1), (3, 1)] := by kernel_rfl
@[go_sem] theorem tZ66 : zeroC Try.prog 66 = some [.sc (.int .i64 0), .sc (.bool false), .sc (.bool false), .sc (.bool false)] := by kernel_rfl
@[go_sem] theorem tS67 : csz Try.prog 67 = some 1 := by kernel_rfl
@[go_sem] theorem tB67 : byt Try.prog 67 = some 8 := by kernel_rfl
@[go_sem] theorem tA67 : isAggT Try.prog 67 = some false := by kernel_rfl
@[go_sem] theorem tZ67 : zeroC Try.prog 67 = some [.sc (.nilFunc)] := by kernel_rfl
@[go_sem] theorem tS68 : csz Try.prog 68 = some 1 := by kernel_rfl
@[go_sem] theorem tB68 : byt Try.prog 68 = some 8 := by kernel_rfl
@[go_sem] theorem tA68 : isAggT Try.prog 68 = some false := by kernel_rfl
@[go_sem] theorem tZ68 : zeroC Try.prog 68 = some [.sc (.nilFunc)] := by kernel_rfl
@[go_sem] theorem tS69 : csz Try.prog 69 = some 2 := by kernel_rfl
@[go_sem] theorem tB69 : byt Try.prog 69 = some 32 := by kernel_rfl
@[go_sem] theorem tA69 : isAggT Try.prog 69 = some true := by kernel_rfl
@[go_sem] theorem tP69 : placesOf Try.prog 69 = some [(0, 1), (1, 1)] := by kernel_rfl
@[go_sem] theorem tZ69 : zeroC Try.prog 69 = some [.sc (.int .i64 0), .sc (.slice none 0 0)] := by kernel_rfl
@[go_sem] theorem tS70 : csz Try.prog 70 = some 2 := by kernel_rfl
@[go_sem] theorem tB70 : byt Try.prog 70 = some 32 := by kernel_rfl
@[go_sem] theorem tA70 : isAggT Try.prog 70 = some true := by kernel_rfl
@[go_sem] theorem tP70 : placesOf Try.prog 70 = some [(0, 1), (1, 1)] := by kernel_rfl
@[go_sem] theorem tZ70 : zeroC Try.prog 70 = some [.sc (.int .i64 0), .sc (.slice none 0 0)] := by kernel_rfl
@[go_sem] theorem tS71 : csz Try.prog 71 = some 1 := by kernel_rfl
@[go_sem] theorem tB71 : byt Try.prog 71 = some 8 := by kernel_rfl
@[go_sem] theorem tA71 : isAggT Try.prog 71 = some false := by kernel_rfl
@[go_sem] theorem tU71 : Try.prog.underlying 71 = some (.pointer 97) := by kernel_rfl
@[go_sem] theorem tZ71 : zeroC Try.prog 71 = some [.sc (.pointer none)] := by kernel_rfl
@[go_sem] theorem tS72 : csz Try.prog 72 = some 1 := by kernel_rfl
@[go_sem] theorem tB72 : byt Try.prog 72 = some 8 := by kernel_rfl
@[go_sem] theorem tA72 : isAggT Try.prog 72 = some false := by kernel_rfl
@[go_sem] theorem tU72 : Try.prog.underlying 72 = some (.int .i64) := by kernel_rfl
@[go_sem] theorem tZ72 : zeroC Try.prog 72 = some [.sc (.int .i64 0)] := by kernel_rfl
@[go_sem] theorem tS73 : csz Try.prog 73 = some 1 := by kernel_rfl
@[go_sem] theorem tB73 : byt Try.prog 73 = some 0 := by kernel_rfl
@[go_sem] theorem tA73 : isAggT Try.prog 73 = some false := by kernel_rfl
@[go_sem] theorem tS74 : csz Try.prog 74 = some 1 := by kernel_rfl
@[go_sem] theorem tB74 : byt Try.prog 74 = some 8 := by kernel_rfl
@[go_sem] theorem tA74 : isAggT Try.prog 74 = some false := by kernel_rfl
@[go_sem] theorem tZ74 : zeroC Try.prog 74 = some [.sc (.nilFunc)] := by kernel_rfl
@[go_sem] theorem tS75 : csz Try.prog 75 = some 1 := by kernel_rfl
@[go_sem] theorem tB75 : byt Try.prog 75 = some 8 := by kernel_rfl
@[go_sem] theorem tA75 : isAggT Try.prog 75 = some false := by kernel_rfl
@[go_sem] theorem tZ75 : zeroC Try.prog 75 = some [.sc (.nilFunc)] := by kernel_rfl
@[go_sem] theorem tS76 : csz Try.prog 76 = some 1 := by kernel_rfl
@[go_sem] theorem tB76 : byt Try.prog 76 = some 8 := by kernel_rfl
@[go_sem] theorem tA76 : isAggT Try.prog 76 = some false := by kernel_rfl
@[go_sem] theorem tZ76 : zeroC Try.prog 76 = some [.sc (.nilFunc)] := by kernel_rfl
@[go_sem] theorem tS77 : csz Try.prog 77 = some 1 := by kernel_rfl
@[go_sem] theorem tB77 : byt Try.prog 77 = some 8 := by kernel_rfl
@[go_sem] theorem tA77 : isAggT Try.prog 77 = some false := by kernel_rfl
@[go_sem] theorem tZ77 : zeroC Try.prog 77 = some [.sc (.nilFunc)] := by kernel_rfl
@[go_sem] theorem tS78 : csz Try.prog 78 = some 1 := by kernel_rfl
@[go_sem] theorem tB78 : byt Try.prog 78 = some 8 := by kernel_rfl
@[go_sem] theorem tA78 : isAggT Try.prog 78 = some false := by kernel_rfl
@[go_sem] theorem tZ78 : zeroC Try.prog 78 = some [.sc (.nilFunc)] := by kernel_rfl
@[go_sem] theorem tS79 : csz Try.prog 79 = some 1 := by kernel_rfl
@[go_sem] theorem tB79 : byt Try.prog 79 = some 8 := by kernel_rfl
@[go_sem] theorem tA79 : isAggT Try.prog 79 = some false := by kernel_rfl
@[go_sem] theorem tU79 : Try.prog.underlying 79 = some (.int .u64) := by kernel_rfl
@[go_sem] theorem tZ79 : zeroC Try.prog 79 = some [.sc (.int .u64 0)] := by kernel_rfl
@[go_sem] theorem tS80 : csz Try.prog 80 = some 1 := by kernel_rfl
@[go_sem] theorem tB80 : byt Try.prog 80 = some 8 := by kernel_rfl
@[go_sem] theorem tA80 : isAggT Try.prog 80 = some false := by kernel_rfl
@[go_sem] theorem tZ80 : zeroC Try.prog 80 = some [.sc (.nilFunc)] := by kernel_rfl
@[go_sem] theorem tS81 : csz Try.prog 81 = some 7 := by kernel_rfl
@[go_sem] theorem tB81 : byt Try.prog 81 = some 72 := by kernel_rfl
@[go_sem] theorem tA81 : isAggT Try.prog 81 = some true := by kernel_rfl
@[go_sem] theorem tP81 : placesOf Try.prog 81 = some [(0, 1), (1, 1), (2, 1), (3, 1), (4, 1), (5, 1), (6, 1)] := by kernel_rfl
@[go_sem] theorem tZ81 : zeroC Try.prog 81 = some [.sc (.int .i64 0), .sc (.int .i64 0), .sc (.int .i64 0), .sc (.int .i64 0), .sc (.int .i64 0), .sc (.slice none 0 0), .sc (.bool false)] := by kernel_rfl
@[go_sem] theorem tS82 : csz Try.prog 82 = some 1 := by kernel_rfl
@[go_sem] theorem tB82 : byt Try.prog 82 = some 8 := by kernel_rfl
@[go_sem] theorem tA82 : isAggT Try.prog 82 = some false := by kernel_rfl
@[go_sem] theorem tZ82 : zeroC Try.prog 82 = some [.sc (.nilFunc)] := by kernel_rfl
@[go_sem] theorem tS83 : csz Try.prog 83 = some 1 := by kernel_rfl
@[go_sem] theorem tB83 : byt Try.prog 83 = some 8 := by kernel_rfl
@[go_sem] theorem tA83 : isAggT Try.prog 83 = some false := by kernel_rfl
@[go_sem] theorem tZ83 : zeroC Try.prog 83 = some [.sc (.nilFunc)] := by kernel_rfl
@[go_sem] theorem tS84 : csz Try.prog 84 = some 1 := by kernel_rfl
@[go_sem] theorem tB84 : byt Try.prog 84 = some 8 := by kernel_rfl
@[go_sem] theorem tA84 : isAggT Try.prog 84 = some false := by kernel_rfl
@[go_sem] theorem tZ84 : zeroC Try.prog 84 = some [.sc (.nilFunc)] := by kernel_rfl
@[go_sem] theorem tS85 : csz Try.prog 85 = some 1 := by kernel_rfl
@[go_sem] theorem tB85 : byt Try.prog 85 = some 8 := by kernel_rfl
@[go_sem] theorem tA85 : isAggT Try.prog 85 = some false := by kernel_rfl
@[go_sem] theorem tZ85 : zeroC Try.prog 85 = some [.sc (.nilFunc)] := by kernel_rfl
@[go_sem] theorem tS86 : csz Try.prog 86 = some 1 := by kernel_rfl
@[go_sem] theorem tB86 : byt Try.prog 86 = some 0 := by kernel_rfl
@[go_sem] theorem tA86 : isAggT Try.prog 86 = some false := by kernel_rfl
@[go_sem] theorem tS87 : csz Try.prog 87 = some 1 := by kernel_rfl
@[go_sem] theorem tB87 : byt Try.prog 87 = some 8 := by kernel_rfl
@[go_sem] theorem tA87 : isAggT Try.prog 87 = some false := by kernel_rfl
@[go_sem] theorem tZ87 : zeroC Try.prog 87 = some [.sc (.nilFunc)] := by kernel_rfl
@[go_sem] theorem tS88 : csz Try.prog 88 = some 1 := by kernel_rfl
@[go_sem] theorem tB88 : byt Try.prog 88 = some 0 := by kernel_rfl
@[go_sem] theorem tA88 : isAggT Try.prog 88 = some false := by kernel_rfl
@[go_sem] theorem tS89 : csz Try.prog 89 = some 1 := by kernel_rfl
@[go_sem] theorem tB89 : byt Try.prog 89 = some 8 := by kernel_rfl
@[go_sem] theorem tA89 : isAggT Try.prog 89 = some false := by kernel_rfl
@[go_sem] theorem tZ89 : zeroC Try.prog 89 = some [.sc (.nilFunc)] := by kernel_rfl
@[go_sem] theorem tS90 : csz Try.prog 90 = some 1 := by kernel_rfl
@[go_sem] theorem tB90 : byt Try.prog 90 = some 8 := by kernel_rfl
@[go_sem] theorem tA90 : isAggT Try.prog 90 = some false := by kernel_rfl
@[go_sem] theorem tZ90 : zeroC Try.prog 90 = some [.sc (.nilFunc)] := by kernel_rfl
@[go_sem] theorem tS91 : csz Try.prog 91 = some 1 := by kernel_rfl
@[go_sem] theorem tB91 : byt Try.prog 91 = some 8 := by kernel_rfl
@[go_sem] theorem tA91 : isAggT Try.prog 91 = some false := by kernel_rfl
@[go_sem] theorem tZ91 : zeroC Try.prog 91 = some [.sc (.nilFunc)] := by kernel_rfl
@[go_sem] theorem tS92 : csz Try.prog 92 = some 1 := by kernel_rfl
@[go_sem] theorem tB92 : byt Try.prog 92 = some 8 := by kernel_rfl
@[go_sem] theorem tA92 : isAggT Try.prog 92 = some false := by kernel_rfl
@[go_sem] theorem tZ92 : zeroC Try.prog 92 = some [.sc (.nilFunc)] := by kernel_rfl
@[go_sem] theorem tS93 : csz Try.prog 93 = some 1 := by kernel_rfl
@[go_sem] theorem tB93 : byt Try.prog 93 = some 8 := by kernel_rfl
@[go_sem] theorem tA93 : isAggT Try.prog 93 = some false := by kernel_rfl
@[go_sem] theorem tU93 : Try.prog.underlying 93 = some (.pointer 106) := by kernel_rfl
@[go_sem] theorem tZ93 : zeroC Try.prog 93 = some [.sc (.pointer none)] := by kernel_rfl
@[go_sem] theorem tS94 : csz Try.prog 94 = some 1 := by kernel_rfl
@[go_sem] theorem tB94 : byt Try.prog 94 = some 0 := by kernel_rfl
@[go_sem] theorem tA94 : isAggT Try.prog 94 = some false := by kernel_rfl
@[go_sem] theorem tS95 : csz Try.prog 95 = some 1 := by kernel_rfl
@[go_sem] theorem tB95 : byt Try.prog 95 = some 8 := by kernel_rfl
@[go_sem] theorem tA95 : isAggT Try.prog 95 = some false := by kernel_rfl
@[go_sem] theorem tZ95 : zeroC Try.prog 95 = some [.sc (.nilFunc)] := by kernel_rfl
@[go_sem] theorem tS96 : csz Try.prog 96 = some 3 := by kernel_rfl
@[go_sem] theorem tB96 : byt Try.prog 96 = some 24 := by kernel_rfl
@[go_sem] theorem tA96 : isAggT Try.prog 96 = some true := by kernel_rfl
@[go_sem] theorem tP96 : placesOf Try.prog 96 = some [(0, 1), (1, 1), (2, 1)] := by kernel_rfl
@[go_sem] theorem tZ96 : zeroC Try.prog 96 = some [.sc (.pointer none), .sc (.int .i64 0), .sc (.bool false)] := by kernel_rfl
@[go_sem] theorem tS97 : csz Try.prog 97 = some 3 := by kernel_rfl
@[go_sem] theorem tB97 : byt Try.prog 97 = some 24 := by kernel_rfl
@[go_sem] theorem tA97 : isAggT Try.prog 97 = some true := by kernel_rfl
@[go_sem] theorem tP97 : placesOf Try.prog 97 = some [(0, 1), (1, 1), (2, 1)] := by kernel_rfl
@[go_sem] theorem tZ97 : zeroC Try.prog 97 = some [.sc (.pointer none), .sc (.int .i64 0), .sc (.bool false)] := by kernel_rfl
@[go_sem] theorem tS98 : csz Try.prog 98 = some 1 := by kernel_rfl
@[go_sem] theorem tB98 : byt Try.prog 98 = some 8 := by kernel_rfl
@[go_sem] theorem tA98 : isAggT Try.prog 98 = some false := by kernel_rfl
@[go_sem] theorem tZ98 : zeroC Try.prog 98 = some [.sc (.nilFunc)] := by kernel_rfl
@[go_sem] theorem tS99 : csz Try.prog 99 = some 1 := by kernel_rfl
@[go_sem] theorem tB99 : byt Try.prog 99 = some 8 := by kernel_rfl
@[go_sem] theorem tA99 : isAggT Try.prog 99 = some false := by kernel_rfl
@[go_sem] theorem tU99 : Try.prog.underlying 99 = some (.pointer 109) := by kernel_rfl
@[go_sem] theorem tZ99 : zeroC Try.prog 99 = some [.sc (.pointer none)] := by kernel_rfl
@[go_sem] theorem tS100 : csz Try.prog 100 = some 1 := by kernel_rfl
@[go_sem] theorem tB100 : byt Try.prog 100 = some 0 := by kernel_rfl
@[go_sem] theorem tA100 : isAggT Try.prog 100 = some false := by kernel_rfl
@[go_sem] theorem tS101 : csz Try.prog 101 = some 1 := by kernel_rfl
@[go_sem] theorem tB101 : byt Try.prog 101 = some 8 := by kernel_rfl
@[go_sem] theorem tA101 : isAggT Try.prog 101 = some false := by kernel_rfl
@[go_sem] theorem tZ101 : zeroC Try.prog 101 = some [.sc (.nilFunc)] := by kernel_rfl
@[go_sem] theorem tS102 : csz Try.prog 102 = some 1 := by kernel_rfl
@[go_sem] theorem tB102 : byt Try.prog 102 = some 0 := by kernel_rfl
@[go_sem] theorem tA102 : isAggT Try.prog 102 = some false := by kernel_rfl
@[go_sem] theorem tS103 : csz Try.prog 103 = some 1 := by kernel_rfl
@[go_sem] theorem tB103 : byt Try.prog 103 = some 8 := by kernel_rfl
@[go_sem] theorem tA103 : isAggT Try.prog 103 = some false := by kernel_rfl
@[go_sem] theorem tZ103 : zeroC Try.prog 103 = some [.sc (.nilFunc)] := by kernel_rfl
@[go_sem] theorem tS104 : csz Try.prog 104 = some 1 := by kernel_rfl
@[go_sem] theorem tB104 : byt Try.prog 104 = some 8 := by kernel_rfl
@[go_sem] theorem tA104 : isAggT Try.prog 104 = some false := by kernel_rfl
@[go_sem] theorem tZ104 : zeroC Try.prog 104 = some [.sc (.nilFunc)] := by kernel_rfl
@[go_sem] theorem tS105 : csz Try.prog 105 = some 13 := by kernel_rfl
@[go_sem] theorem tB105 : byt Try.prog 105 = some 200 := by kernel_rfl
@[go_sem] theorem tA105 : isAggT Try.prog 105 = some true := by kernel_rfl
@[go_sem] theorem tP105 : placesOf Try.prog 105 = some [(0, 1), (1, 1), (2, 1), (3, 1), (4, 1), (5, 1), (6, 1), (7, 1), (8, 1), (9, 1), (10, 1), (11, 1), (12, 1)] := by kernel_rfl
@[go_sem] theorem tZ105 : zeroC Try.prog 105 = some [.sc (.slice none 0 0), .sc (.slice none 0 0), .sc (.slice none 0 0), .sc (.slice none 0 0), .sc (.pointer none), .sc (.int .i64 0), .sc (.int .i64 0), .sc (.int .i64 0), .sc (.bool false), .sc (.int .i64 0), .sc (.slice none 0 0), .sc (.slice none 0 0), .sc (.int .i64 0)] := by kernel_rfl
@[go_sem] theorem tS106 : csz Try.prog 106 = some 13 := by kernel_rfl
@[go_sem] theorem tB106 : byt Try.prog 106 = some 200 := by kernel_rfl
@[go_sem] theorem tA106 : isAggT Try.prog 106 = some true := by kernel_rfl
@[go_sem] theorem tP106 : placesOf Try.prog 106 = some [(0, 1), (1, 1), (2, 1), (3, 1), (4, 1), (5, 1), (6, 1), (7, 1), (8, 1), (9, 1), (10, 1), (11, 1), (12, 1)] := by kernel_rfl
@[go_sem] theorem tZ106 : zeroC Try.prog 106 = some [.sc (.slice none 0 0), .sc (.slice none 0 0), .sc (.slice none 0 0), .sc (.slice none 0 0), .sc (.pointer none), .sc (.int .i64 0), .sc (.int .i64 0), .sc (.int .i64 0), .sc (.bool false), .sc (.int .i64 0), .sc (.slice none 0 0), .sc (.slice none 0 0), .sc (.int .i64 0)] := by kernel_rfl
@[go_sem] theorem tS107 : csz Try.prog 107 = some 1 := by kernel_rfl
@[go_sem] theorem tB107 : byt Try.prog 107 = some 8 := by kernel_rfl
@[go_sem] theorem tA107 : isAggT Try.prog 107 = some false := by kernel_rfl
@[go_sem] theorem tZ107 : zeroC Try.prog 107 = some [.sc (.nilFunc)] := by kernel_rfl
@[go_sem] theorem tS108 : csz Try.prog 108 = some 5 := by kernel_rfl
@[go_sem] theorem tB108 : byt Try.prog 108 = some 40 := by kernel_rfl
@[go_sem] theorem tA108 : isAggT Try.prog 108 = some true := by kernel_rfl
@[go_sem] theorem tP108 : placesOf Try.prog 108 = some [(0, 1), (1, 1), (2, 1), (3, 1), (4, 1)] := by kernel_rfl
@[go_sem] theorem tZ108 : zeroC Try.prog 108 = some [.sc (.int .i64 0), .sc (.int .i64 0), .sc (.int .i64 0), .sc (.int .i64 0), .sc (.int .i64 0)] := by kernel_rfl
@[go_sem] theorem tS109 : csz Try.prog 109 = some 5 := by kernel_rfl
@[go_sem] theorem tB109 : byt Try.prog 109 = some 40 := by kernel_rfl
@[go_sem] theorem tA109 : isAggT Try.prog 109 = some true := by kernel_rfl
@[go_sem] theorem tP109 : placesOf Try.prog 109 = some [(0, 1), (1, 1), (2, 1), (3, 1), (4, 1)] := by kernel_rfl
@[go_sem] theorem tZ109 : zeroC Try.prog 109 = some [.sc (.int .i64 0), .sc (.int .i64 0), .sc (.int .i64 0), .sc (.int .i64 0), .sc (.int .i64 0)] := by kernel_rfl
@[go_sem] theorem tS110 : csz Try.prog 110 = some 1 := by kernel_rfl
@[go_sem] theorem tB110 : byt Try.prog 110 = some 8 := by kernel_rfl
@[go_sem] theorem tA110 : isAggT Try.prog 110 = some false := by kernel_rfl
@[go_sem] theorem tZ110 : zeroC Try.prog 110 = some [.sc (.nilFunc)] := by kernel_rfl
@[go_sem] theorem tS111 : csz Try.prog 111 = some 4 := by kernel_rfl
@[go_sem] theorem tB111 : byt Try.prog 111 = some 40 := by kernel_rfl
@[go_sem] theorem tA111 : isAggT Try.prog 111 = some true := by kernel_rfl
@[go_sem] theorem tP111 : placesOf Try.prog 111 = some [(0, 1), (1, 1), (2, 1), (3, 1)] := by kernel_rfl
@[go_sem] theorem tZ111 : zeroC Try.prog 111 = some [.sc (.pointer none), .sc (.pointer none), .sc (.pointer none), .sc (.string ByteArray.empty)] := by kernel_rfl
@[go_sem] theorem tS112 : csz Try.prog 112 = some 4 := by kernel_rfl
@[go_sem] theorem tB112 : byt Try.prog 112 = some 40 := by kernel_rfl
@[go_sem] theorem tA112 : isAggT Try.prog 112 = some true := by kernel_rfl
@[go_sem] theorem tP112 : placesOf Try.prog 112 = some [(0, 1), (1, 1), (2, 1), (3, 1)] := by kernel_rfl
@[go_sem] theorem tZ112 : zeroC Try.prog 112 = some [.sc (.pointer none), .sc (.pointer none), .sc (.pointer none), .sc (.string ByteArray.empty)] := by kernel_rfl
@[go_sem] theorem tS113 : csz Try.prog 113 = some 0 := by kernel_rfl
@[go_sem] theorem tB113 : byt Try.prog 113 = some 0 := by kernel_rfl
@[go_sem] theorem tA113 : isAggT Try.prog 113 = some true := by kernel_rfl
@[go_sem] theorem tZ113 : zeroC Try.prog 113 = some [] := by kernel_rfl
@[go_sem] theorem tS114 : csz Try.prog 114 = some 0 := by kernel_rfl
@[go_sem] theorem tB114 : byt Try.prog 114 = some 0 := by kernel_rfl
@[go_sem] theorem tA114 : isAggT Try.prog 114 = some true := by kernel_rfl
@[go_sem] theorem tP114 : placesOf Try.prog 114 = some [(0, 0)] := by kernel_rfl
@[go_sem] theorem tZ114 : zeroC Try.prog 114 = some [] := by kernel_rfl
@[go_sem] theorem tS115 : csz Try.prog 115 = some 0 := by kernel_rfl
@[go_sem] theorem tB115 : byt Try.prog 115 = some 0 := by kernel_rfl
@[go_sem] theorem tA115 : isAggT Try.prog 115 = some true := by kernel_rfl
@[go_sem] theorem tP115 : placesOf Try.prog 115 = some [(0, 0)] := by kernel_rfl
@[go_sem] theorem tZ115 : zeroC Try.prog 115 = some [] := by kernel_rfl
@[go_sem] theorem tS116 : csz Try.prog 116 = some 1 := by kernel_rfl
@[go_sem] theorem tB116 : byt Try.prog 116 = some 8 := by kernel_rfl
@[go_sem] theorem tA116 : isAggT Try.prog 116 = some false := by kernel_rfl
@[go_sem] theorem tZ116 : zeroC Try.prog 116 = some [.sc (.nilFunc)] := by kernel_rfl
@[go_sem] theorem tS117 : csz Try.prog 117 = some 1 := by kernel_rfl
@[go_sem] theorem tB117 : byt Try.prog 117 = some 1 := by kernel_rfl
@[go_sem] theorem tA117 : isAggT Try.prog 117 = some false := by kernel_rfl
@[go_sem] theorem tU117 : Try.prog.underlying 117 = some (.int .u8) := by kernel_rfl
@[go_sem] theorem tZ117 : zeroC Try.prog 117 = some [.sc (.int .u8 0)] := by kernel_rfl
@[go_sem] theorem tS118 : csz Try.prog 118 = some 1 := by kernel_rfl
@[go_sem] theorem tB118 : byt Try.prog 118 = some 1 := by kernel_rfl
@[go_sem] theorem tA118 : isAggT Try.prog 118 = some false := by kernel_rfl
@[go_sem] theorem tU118 : Try.prog.underlying 118 = some (.int .u8) := by kernel_rfl
@[go_sem] theorem tZ118 : zeroC Try.prog 118 = some [.sc (.int .u8 0)] := by kernel_rfl
@[go_sem] theorem tS119 : csz Try.prog 119 = some 1 := by kernel_rfl
@[go_sem] theorem tB119 : byt Try.prog 119 = some 8 := by kernel_rfl
@[go_sem] theorem tA119 : isAggT Try.prog 119 = some false := by kernel_rfl
@[go_sem] theorem tZ119 : zeroC Try.prog 119 = some [.sc (.nilFunc)] := by kernel_rfl
@[go_sem] theorem tS120 : csz Try.prog 120 = some 1 := by kernel_rfl
@[go_sem] theorem tB120 : byt Try.prog 120 = some 8 := by kernel_rfl
@[go_sem] theorem tA120 : isAggT Try.prog 120 = some false := by kernel_rfl
@[go_sem] theorem tU120 : Try.prog.underlying 120 = some (.pointer 5) := by kernel_rfl
@[go_sem] theorem tZ120 : zeroC Try.prog 120 = some [.sc (.pointer none)] := by kernel_rfl
@[go_sem] theorem tS121 : csz Try.prog 121 = some 1 := by kernel_rfl
@[go_sem] theorem tB121 : byt Try.prog 121 = some 4 := by kernel_rfl
@[go_sem] theorem tA121 : isAggT Try.prog 121 = some false := by kernel_rfl
@[go_sem] theorem tU121 : Try.prog.underlying 121 = some (.int .i32) := by kernel_rfl
@[go_sem] theorem tZ121 : zeroC Try.prog 121 = some [.sc (.int .i32 0)] := by kernel_rfl
@[go_sem] theorem tS122 : csz Try.prog 122 = some 1 := by kernel_rfl
@[go_sem] theorem tB122 : byt Try.prog 122 = some 4 := by kernel_rfl
@[go_sem] theorem tA122 : isAggT Try.prog 122 = some false := by kernel_rfl
@[go_sem] theorem tU122 : Try.prog.underlying 122 = some (.int .i32) := by kernel_rfl
@[go_sem] theorem tZ122 : zeroC Try.prog 122 = some [.sc (.int .i32 0)] := by kernel_rfl
@[go_sem] theorem tS123 : csz Try.prog 123 = some 11 := by kernel_rfl
@[go_sem] theorem tB123 : byt Try.prog 123 = some 48 := by kernel_rfl
@[go_sem] theorem tA123 : isAggT Try.prog 123 = some true := by kernel_rfl
@[go_sem] theorem tP123 : placesOf Try.prog 123 = some [(0, 1), (1, 1), (2, 1), (3, 1), (4, 1), (5, 1), (6, 1), (7, 1), (8, 1), (9, 1), (10, 1)] := by kernel_rfl
@[go_sem] theorem tZ123 : zeroC Try.prog 123 = some [.sc (.int .u64 0), .sc (.int .u64 0), .sc (.int .u32 0), .sc (.int .u8 0), .sc (.int .u8 0), .sc (.int .u8 0), .sc (.int .u8 0), .sc (.nilFunc), .sc (.pointer none), .sc (.int .i32 0), .sc (.int .i32 0)] := by kernel_rfl
@[go_sem] theorem tS124 : csz Try.prog 124 = some 11 := by kernel_rfl
@[go_sem] theorem tB124 : byt Try.prog 124 = some 48 := by kernel_rfl
@[go_sem] theorem tA124 : isAggT Try.prog 124 = some true := by kernel_rfl
@[go_sem] theorem tP124 : placesOf Try.prog 124 = some [(0, 1), (1, 1), (2, 1), (3, 1), (4, 1), (5, 1), (6, 1), (7, 1), (8, 1), (9, 1), (10, 1)] := by kernel_rfl
@[go_sem] theorem tZ124 : zeroC Try.prog 124 = some [.sc (.int .u64 0), .sc (.int .u64 0), .sc (.int .u32 0), .sc (.int .u8 0), .sc (.int .u8 0), .sc (.int .u8 0), .sc (.int .u8 0), .sc (.nilFunc), .sc (.pointer none), .sc (.int .i32 0), .sc (.int .i32 0)] := by kernel_rfl
@[go_sem] theorem tS125 : csz Try.prog 125 = some 1 := by kernel_rfl
@[go_sem] theorem tB125 : byt Try.prog 125 = some 8 := by kernel_rfl
@[go_sem] theorem tA125 : isAggT Try.prog 125 = some false := by kernel_rfl
@[go_sem] theorem tZ125 : zeroC Try.prog 125 = some [.sc (.nilFunc)] := by kernel_rfl
@[go_sem] theorem tS126 : csz Try.prog 126 = some 1 := by kernel_rfl
@[go_sem] theorem tB126 : byt Try.prog 126 = some 8 := by kernel_rfl
@[go_sem] theorem tA126 : isAggT Try.prog 126 = some false := by kernel_rfl
@[go_sem] theorem tZ126 : zeroC Try.prog 126 = some [.sc (.pointer none)] := by kernel_rfl
end Go.Proofs.Ytmnbicoeahlpcaa
