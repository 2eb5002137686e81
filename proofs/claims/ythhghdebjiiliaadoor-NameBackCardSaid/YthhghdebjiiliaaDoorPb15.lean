/- Part 15 of what the laws' proofs rest on. No condition. -/
import Derived.Laws.RangeAny
import Derived.Test.YthhghdebjiiliaaDoorPb14
set_option linter.all false
section
namespace Go.Proofs.YthhghdebjiiliaaDoor
set_option maxRecDepth 100000
def w20 : CF := ⟨16, [.t 4], .seq (.reg 0 [⟨some 4, none, .mv (.c (.i .i64 0))⟩]) (.seq (.seq (.reg 1 [⟨some 5, none, .mv (.t 1)⟩, ⟨some 6, none, .bin .leq (.t 5) (.c (.i .i64 0))⟩]) (.cond (.t 6) (.seq (.reg 2 [⟨some 4, none, .mv (.c (.i .i64 0))⟩]) .ret) .skip)) (.seq (.reg 3 [⟨some 7, none, .mv (.t 0)⟩, ⟨some 8, none, .mv (.t 1)⟩, ⟨some 9, none, .bin .rem (.t 7) (.t 8)⟩, ⟨some 0, none, .mv (.t 9)⟩]) (.seq (.seq (.reg 4 [⟨some 10, none, .mv (.t 0)⟩, ⟨some 11, none, .bin .lss (.t 10) (.c (.i .i64 0))⟩]) (.cond (.t 11) (.reg 5 [⟨some 12, none, .mv (.t 0)⟩, ⟨some 13, none, .mv (.t 1)⟩, ⟨some 14, none, .bin .add (.t 12) (.t 13)⟩, ⟨some 0, none, .mv (.t 14)⟩]) .skip)) (.seq (.reg 6 [⟨some 15, none, .mv (.t 0)⟩, ⟨some 4, none, .mv (.t 15)⟩]) .ret))))⟩
theorem sw20 : qXD Tryd.prog Tryd.f20 = some w20 := by kernel_rfl
def w23 : CF := ⟨36, [.cell 6 (some 2)], .seq (.reg 0 [⟨some 6, none, .new true [.i .i64 0, .i .i64 0]⟩]) (.seq (.seq (.reg 1 [⟨some 9, none, .mv (.t 0)⟩, ⟨some 10, none, .rng (.t 9)⟩]) (.block 0 (.loop (.seq (.reg 2 [⟨some 11, none, .nxt (.t 10)⟩, ⟨some 12, none, .ext (.t 11) 0⟩]) (.seq (.cond (.t 12) .skip (.exit 0)) (.block 1 (.seq (.reg 3 [⟨some 13, none, .ext (.t 11) 1⟩, ⟨some 14, none, .ext (.t 11) 2⟩, ⟨some 7, none, .mv (.t 13)⟩, ⟨some 8, none, .mv (.t 14)⟩]) (.seq (.reg 4 [⟨some 15, none, .mv (.t 1)⟩, ⟨some 16, none, .nck (.t 15)⟩, ⟨some 17, none, .fad 0 (.t 16)⟩, ⟨some 18, none, .ld none (.t 17)⟩, ⟨some 19, none, .mv (.t 8)⟩, ⟨some 20, none, .call (.t 18) [.t 19]⟩, ⟨some 1, none, .mv (.t 20)⟩]) (.seq (.reg 5 [⟨some 21, none, .mv (.t 1)⟩, ⟨some 22, none, .eqn false (.t 21) (.c .np)⟩]) (.cond (.t 22) (.seq (.reg 6 [⟨some 23, none, .mv (.t 2)⟩, ⟨some 24, none, .mv (.t 7)⟩, ⟨some 25, none, .bld [.i .i64 0, .i .i64 0] [(0, 1, .t 23), (1, 1, .t 24)]⟩, ⟨none, none, .st (some 2) (.t 6) (.t 25)⟩]) .ret) .skip)))))))))) (.seq (.seq (.reg 7 [⟨some 26, none, .mv (.t 1)⟩, ⟨some 27, none, .nck (.t 26)⟩, ⟨some 28, none, .fad 1 (.t 27)⟩, ⟨some 29, none, .ld none (.t 28)⟩, ⟨some 30, none, .un .not (.t 29)⟩]) (.cond (.t 30) (.seq (.reg 8 [⟨some 31, none, .mv (.t 2)⟩, ⟨some 32, none, .mv (.t 0)⟩, ⟨some 33, none, .len true (.t 32)⟩, ⟨some 34, none, .bld [.i .i64 0, .i .i64 0] [(0, 1, .t 31), (1, 1, .t 33)]⟩, ⟨none, none, .st (some 2) (.t 6) (.t 34)⟩]) .ret) .skip)) (.seq (.reg 9 [⟨some 35, none, .bld [.i .i64 0, .i .i64 0] []⟩, ⟨none, none, .st (some 2) (.t 6) (.t 35)⟩]) .ret)))⟩
theorem sw23 : qXD Tryd.prog Tryd.f23 = some w23 := by kernel_rfl
def w24 : CF := ⟨11, [.t 4], .seq (.reg 0 [⟨some 2, none, .box true 1 (.t 0)⟩, ⟨some 3, none, .box false 1 (.t 1)⟩, ⟨some 4, none, .mv (.c .np)⟩]) (.seq (.seq (.reg 1 [⟨some 5, none, .ld none (.t 2)⟩, ⟨some 6, none, .bin .eql (.t 5) (.c (.s []))⟩]) (.cond (.t 6) (.seq (.reg 2 [⟨some 7, none, .ld none (.t 3)⟩, ⟨some 4, none, .mv (.t 7)⟩]) .ret) .skip)) (.seq (.reg 3 [⟨some 8, none, .mkf (.func 37) [] [.t 2, .t 3]⟩, ⟨some 9, none, .bld [.nf, .b false] [(0, 1, .t 8)]⟩, ⟨some 10, none, .box false 2 (.t 9)⟩, ⟨some 4, none, .mv (.t 10)⟩]) .ret))⟩
theorem sw24 : qXD Tryd.prog Tryd.f24 = some w24 := by kernel_rfl
def w25 : CF := ⟨8, [.t 2], .seq (.reg 0 [⟨some 1, none, .box true 1 (.t 0)⟩, ⟨some 2, none, .mv (.c .np)⟩]) (.seq (.reg 1 [⟨some 3, none, .mkf (.func 38) [] [.t 1]⟩, ⟨some 4, none, .ld none (.t 1)⟩, ⟨some 5, none, .bin .eql (.t 4) (.c (.i .i64 0))⟩, ⟨some 6, none, .bld [.nf, .b false] [(0, 1, .t 3), (1, 1, .t 5)]⟩, ⟨some 7, none, .box false 2 (.t 6)⟩, ⟨some 2, none, .mv (.t 7)⟩]) .ret)⟩
theorem sw25 : qXD Tryd.prog Tryd.f25 = some w25 := by kernel_rfl
def w26 : CF := ⟨187, [.t 4], .seq (.reg 0 [⟨some 4, none, .mv (.c (.i .i64 0))⟩]) (.block 0 (.seq (.reg 34 [⟨some 161, none, .mv (.t 1)⟩, ⟨some 162, none, .bin .leq (.c (.i .i32 0)) (.t 161)⟩, ⟨some 163, none, .mv (.t 162)⟩, ⟨some 164, some (163, true), .mv (.t 1)⟩, ⟨some 165, some (163, true), .bin .lss (.t 164) (.c (.i .i32 128))⟩, ⟨some 166, none, .pick (.t 163) (.t 165) (.c (.b false))⟩, ⟨some 160, none, .mv (.t 166)⟩]) (.cond (.t 160) (.seq (.reg 35 [⟨some 167, none, .mv (.t 0)⟩, ⟨some 168, none, .mv (.t 1)⟩, ⟨some 169, none, .cvi .u8 (.t 168)⟩, ⟨some 170, none, .call (.c (.f (.func 40) [] [])) [.t 167, .t 169]⟩, ⟨some 4, none, .mv (.t 170)⟩]) .ret) (.seq (.reg 36 [⟨some 172, none, .mv (.t 1)⟩, ⟨some 173, none, .bin .eql (.t 172) (.c (.i .i32 65533))⟩, ⟨some 171, none, .mv (.t 173)⟩]) (.cond (.t 171) (.seq (.seq (.reg 37 [⟨some 174, none, .mv (.t 0)⟩, ⟨some 175, none, .rng (.t 174)⟩]) (.block 9 (.loop (.seq (.reg 38 [⟨some 176, none, .nxt (.t 175)⟩, ⟨some 177, none, .ext (.t 176) 0⟩]) (.seq (.cond (.t 177) .skip (.exit 9)) (.block 10 (.seq (.reg 39 [⟨some 178, none, .ext (.t 176) 1⟩, ⟨some 179, none, .ext (.t 176) 2⟩, ⟨some 5, none, .mv (.t 178)⟩, ⟨some 6, none, .mv (.t 179)⟩]) (.seq (.reg 40 [⟨some 180, none, .mv (.t 6)⟩, ⟨some 181, none, .bin .eql (.t 180) (.c (.i .i32 65533))⟩]) (.cond (.t 181) (.seq (.reg 41 [⟨some 182, none, .mv (.t 5)⟩, ⟨some 4, none, .mv (.t 182)⟩]) .ret) .skip))))))))) (.seq (.reg 42 [⟨some 4, none, .mv (.c (.i .i64 (-1)))⟩]) .ret)) (.seq (.reg 43 [⟨some 184, none, .mv (.t 1)⟩, ⟨some 185, none, .call (.c (.f (.func 41) [] [])) [.t 184]⟩, ⟨some 186, none, .un .not (.t 185)⟩, ⟨some 183, none, .mv (.t 186)⟩]) (.cond (.t 183) (.seq (.reg 44 [⟨some 4, none, .mv (.c (.i .i64 (-1)))⟩]) .ret) (.scope (.seq (.reg 1 [⟨some 17, none, .mv (.t 1)⟩, ⟨some 18, none, .stop⟩, ⟨some 7, none, .mv (.t 18)⟩]) (.seq (.reg 2 [⟨some 19, none, .mv (.t 7)⟩, ⟨some 20, none, .len true (.t 19)⟩, ⟨some 21, none, .bin .sub (.t 20) (.c (.i .i64 1))⟩, ⟨some 8, none, .mv (.t 21)⟩]) (.seq (.reg 3 [⟨some 22, none, .mv (.t 8)⟩, ⟨some 9, none, .mv (.t 22)⟩]) (.seq (.reg 4 [⟨some 10, none, .mv (.c (.i .i64 0))⟩]) (.seq (.block 1 (.loop (.seq (.seq (.reg 5 [⟨some 23, none, .mv (.t 9)⟩, ⟨some 24, none, .mv (.t 0)⟩, ⟨some 25, none, .len true (.t 24)⟩, ⟨some 26, none, .bin .lss (.t 23) (.t 25)⟩]) (.cond (.t 26) .skip (.exit 1))) (.block 2 (.scope (.seq (.seq (.drw 6 [⟨⟨some 27, none, .mv (.t 0)⟩, 0, 1⟩, ⟨⟨some 28, none, .mv (.t 9)⟩, 0, 512⟩, ⟨⟨some 29, none, .ixs (.t 27) (.t 28)⟩, 3, 402653184⟩, ⟨⟨some 30, none, .mv (.t 7)⟩, 0, 128⟩, ⟨⟨some 31, none, .mv (.t 8)⟩, 0, 256⟩, ⟨⟨some 32, none, .ixs (.t 30) (.t 31)⟩, 24, 3221225472⟩, ⟨⟨some 33, none, .bin .neq (.t 29) (.t 32)⟩, 63, 4831838208⟩]) (.cond (.t 33) (.seq (.drw 7 [⟨⟨some 34, none, .mv (.t 0)⟩, 0, 1⟩, ⟨⟨some 35, none, .mv (.t 9)⟩, 0, 512⟩, ⟨⟨some 36, none, .bin .add (.t 35) (.c (.i .i64 1))⟩, 2, 34359738368⟩, ⟨⟨some 37, none, .sls (.t 34) (some (.t 36)) none⟩, 7, 85899345920⟩, ⟨⟨some 38, none, .mv (.t 7)⟩, 0, 128⟩, ⟨⟨some 39, none, .mv (.t 8)⟩, 0, 256⟩, ⟨⟨some 40, none, .ixs (.t 38) (.t 39)⟩, 48, 824633720832⟩, ⟨⟨some 41, none, .call (.c (.f (.func 40) [] [])) [.t 37, .t 40]⟩, 127, 1236950581248⟩, ⟨⟨some 11, none, .mv (.t 41)⟩, 255, 2199023255552⟩]) (.seq (.seq (.reg 8 [⟨some 42, none, .mv (.t 11)⟩, ⟨some 43, none, .bin .lss (.t 42) (.c (.i .i64 0))⟩]) (.cond (.t 43) (.seq (.reg 9 [⟨some 4, none, .mv (.c (.i .i64 (-1)))⟩]) .ret) .skip)) (.reg 10 [⟨some 44, none, .mv (.t 9)⟩, ⟨some 45, none, .mv (.t 11)⟩, ⟨some 46, none, .bin .add (.t 45) (.c (.i .i64 1))⟩, ⟨some 47, none, .bin .add (.t 44) (.t 46)⟩, ⟨some 9, none, .mv (.t 47)⟩]))) .skip)) (.seq (.seq (.reg 11 [⟨some 12, none, .mv (.c (.i .i64 1))⟩]) (.block 3 (.loop (.seq (.seq (.reg 12 [⟨some 48, none, .mv (.t 12)⟩, ⟨some 49, none, .mv (.t 7)⟩, ⟨some 50, none, .len true (.t 49)⟩, ⟨some 51, none, .bin .lss (.t 48) (.t 50)⟩]) (.cond (.t 51) .skip (.exit 3))) (.seq (.block 4 (.seq (.drw 14 [⟨⟨some 54, none, .mv (.t 0)⟩, 0, 1⟩, ⟨⟨some 55, none, .mv (.t 9)⟩, 0, 512⟩, ⟨⟨some 56, none, .mv (.t 12)⟩, 0, 4096⟩, ⟨⟨some 57, none, .bin .sub (.t 55) (.t 56)⟩, 6, 108086391056891904⟩, ⟨⟨some 58, none, .ixs (.t 54) (.t 57)⟩, 15, 162129586585337856⟩, ⟨⟨some 59, none, .mv (.t 7)⟩, 0, 128⟩, ⟨⟨some 60, none, .mv (.t 8)⟩, 0, 256⟩, ⟨⟨some 61, none, .mv (.t 12)⟩, 0, 4096⟩, ⟨⟨some 62, none, .bin .sub (.t 60) (.t 61)⟩, 192, 3458764513820540928⟩, ⟨⟨some 63, none, .ixs (.t 59) (.t 62)⟩, 480, 5188146770730811392⟩, ⟨⟨some 64, none, .bin .neq (.t 58) (.t 63)⟩, 1023, 9511602413006487552⟩]) (.cond (.t 64) .stop .skip))) (.reg 13 [⟨some 52, none, .mv (.t 12)⟩, ⟨some 53, none, .bin .add (.t 52) (.c (.i .i64 1))⟩, ⟨some 12, none, .mv (.t 53)⟩])))))) (.seq (.seq (.reg 15 [⟨some 65, none, .mv (.t 9)⟩, ⟨some 66, none, .mv (.t 8)⟩, ⟨some 67, none, .bin .sub (.t 65) (.t 66)⟩, ⟨some 4, none, .mv (.t 67)⟩]) .ret) (.seq .skip (.seq (.reg 16 [⟨some 68, none, .mv (.t 10)⟩, ⟨some 69, none, .bin .add (.t 68) (.c (.i .i64 1))⟩, ⟨some 10, none, .mv (.t 69)⟩]) (.seq (.reg 17 [⟨some 70, none, .mv (.t 9)⟩, ⟨some 71, none, .bin .add (.t 70) (.c (.i .i64 1))⟩, ⟨some 9, none, .mv (.t 71)⟩]) (.seq (.reg 18 [⟨some 72, none, .mv (.c (.b true))⟩, ⟨some 73, some (72, true), .mv (.t 10)⟩, ⟨some 74, some (72, true), .mv (.t 9)⟩, ⟨some 75, some (72, true), .call (.c (.f (.func 42) [] [])) [.t 74]⟩, ⟨some 76, some (72, true), .bin .gtr (.t 73) (.t 75)⟩, ⟨some 77, none, .pick (.t 72) (.t 76) (.c (.b false))⟩, ⟨some 78, none, .mv (.t 77)⟩, ⟨some 79, some (78, true), .mv (.t 9)⟩, ⟨some 80, some (78, true), .mv (.t 0)⟩, ⟨some 81, some (78, true), .len true (.t 80)⟩, ⟨some 82, some (78, true), .bin .lss (.t 79) (.t 81)⟩, ⟨some 83, none, .pick (.t 78) (.t 82) (.c (.b false))⟩, ⟨some 84, none, .mv (.t 83)⟩, ⟨some 85, some (84, false), .mv (.c (.b false))⟩, ⟨some 86, some (85, true), .mv (.t 10)⟩, ⟨some 87, some (85, true), .mv (.t 9)⟩, ⟨some 88, some (85, true), .bin .shr (.t 87) (.c (.i .u64 4))⟩, ⟨some 89, some (85, true), .bin .add (.c (.i .i64 4)) (.t 88)⟩, ⟨some 90, some (85, true), .bin .geq (.t 86) (.t 89)⟩, ⟨some 91, some (84, false), .pick (.t 85) (.t 90) (.c (.b false))⟩, ⟨some 92, some (84, false), .mv (.t 91)⟩, ⟨some 93, some (92, true), .mv (.t 9)⟩, ⟨some 94, some (92, true), .mv (.t 0)⟩, ⟨some 95, some (92, true), .len true (.t 94)⟩, ⟨some 96, some (92, true), .bin .lss (.t 93) (.t 95)⟩, ⟨some 97, some (84, false), .pick (.t 92) (.t 96) (.c (.b false))⟩, ⟨some 98, none, .pick (.t 84) (.c (.b true)) (.t 97)⟩]) (.cond (.t 98) .stop .skip))))))))))))) (.seq (.seq (.reg 19 [⟨some 4, none, .mv (.c (.i .i64 (-1)))⟩]) .ret) (.seq .skip (.seq (.cond (.c (.b true)) (.seq (.reg 20 [⟨some 99, none, .mv (.t 0)⟩, ⟨some 100, none, .mv (.t 9)⟩, ⟨some 101, none, .mv (.t 8)⟩, ⟨some 102, none, .bin .sub (.t 100) (.t 101)⟩, ⟨some 103, none, .sls (.t 99) (some (.t 102)) none⟩, ⟨some 104, none, .mv (.t 1)⟩, ⟨some 105, none, .stop⟩, ⟨some 106, none, .call (.c (.f (.func 43) [] [])) [.t 103, .t 105]⟩, ⟨some 13, none, .mv (.t 106)⟩]) (.seq (.reg 21 [⟨some 107, none, .mv (.t 13)⟩, ⟨some 108, none, .bin .geq (.t 107) (.c (.i .i64 0))⟩]) (.cond (.t 108) (.seq (.reg 22 [⟨some 109, none, .mv (.t 9)⟩, ⟨some 110, none, .mv (.t 13)⟩, ⟨some 111, none, .bin .add (.t 109) (.t 110)⟩, ⟨some 112, none, .mv (.t 8)⟩, ⟨some 113, none, .bin .sub (.t 111) (.t 112)⟩, ⟨some 4, none, .mv (.t 113)⟩]) .ret) .skip))) (.scope (.seq (.reg 23 [⟨some 114, none, .mv (.t 7)⟩, ⟨some 115, none, .mv (.t 8)⟩, ⟨some 116, none, .ixs (.t 114) (.t 115)⟩, ⟨some 14, none, .mv (.t 116)⟩]) (.seq (.reg 24 [⟨some 117, none, .mv (.t 7)⟩, ⟨some 118, none, .mv (.t 8)⟩, ⟨some 119, none, .bin .sub (.t 118) (.c (.i .i64 1))⟩, ⟨some 120, none, .ixs (.t 117) (.t 119)⟩, ⟨some 15, none, .mv (.t 120)⟩]) (.seq .skip (.block 5 (.loop (.seq (.seq (.reg 25 [⟨some 121, none, .mv (.t 9)⟩, ⟨some 122, none, .mv (.t 0)⟩, ⟨some 123, none, .len true (.t 122)⟩, ⟨some 124, none, .bin .lss (.t 121) (.t 123)⟩]) (.cond (.t 124) .skip (.exit 5))) (.seq (.block 6 (.seq (.reg 27 [⟨some 127, none, .mv (.t 0)⟩, ⟨some 128, none, .mv (.t 9)⟩, ⟨some 129, none, .ixs (.t 127) (.t 128)⟩, ⟨some 130, none, .mv (.t 14)⟩, ⟨some 131, none, .bin .eql (.t 129) (.t 130)⟩, ⟨some 132, none, .mv (.t 131)⟩, ⟨some 133, some (132, true), .mv (.t 0)⟩, ⟨some 134, some (132, true), .mv (.t 9)⟩, ⟨some 135, some (132, true), .bin .sub (.t 134) (.c (.i .i64 1))⟩, ⟨some 136, some (132, true), .ixs (.t 133) (.t 135)⟩, ⟨some 137, some (132, true), .mv (.t 15)⟩, ⟨some 138, some (132, true), .bin .eql (.t 136) (.t 137)⟩, ⟨some 139, none, .pick (.t 132) (.t 138) (.c (.b false))⟩]) (.cond (.t 139) (.seq (.seq (.reg 28 [⟨some 16, none, .mv (.c (.i .i64 2))⟩]) (.block 7 (.loop (.seq (.seq (.reg 29 [⟨some 140, none, .mv (.t 16)⟩, ⟨some 141, none, .mv (.t 7)⟩, ⟨some 142, none, .len true (.t 141)⟩, ⟨some 143, none, .bin .lss (.t 140) (.t 142)⟩]) (.cond (.t 143) .skip (.exit 7))) (.seq (.block 8 (.seq (.drw 31 [⟨⟨some 146, none, .mv (.t 0)⟩, 0, 1⟩, ⟨⟨some 147, none, .mv (.t 9)⟩, 0, 512⟩, ⟨⟨some 148, none, .mv (.t 16)⟩, 0, 65536⟩, ⟨⟨some 149, none, .bin .sub (.t 147) (.t 148)⟩, 6, 535217884764734955396857238543560676143529984⟩, ⟨⟨some 150, none, .ixs (.t 146) (.t 149)⟩, 15, 802826827147102433095285857815341014215294976⟩, ⟨⟨some 151, none, .mv (.t 7)⟩, 0, 128⟩, ⟨⟨some 152, none, .mv (.t 8)⟩, 0, 256⟩, ⟨⟨some 153, none, .mv (.t 16)⟩, 0, 65536⟩, ⟨⟨some 154, none, .bin .sub (.t 152) (.t 153)⟩, 192, 17126972312471518572699431633393941636592959488⟩, ⟨⟨some 155, none, .ixs (.t 151) (.t 154)⟩, 480, 25690458468707277859049147450090912454889439232⟩, ⟨⟨some 156, none, .bin .neq (.t 150) (.t 155)⟩, 1023, 47099173859296676074923436991833339500630638592⟩]) (.cond (.t 156) (.exit 6) .skip))) (.reg 30 [⟨some 144, none, .mv (.t 16)⟩, ⟨some 145, none, .bin .add (.t 144) (.c (.i .i64 1))⟩, ⟨some 16, none, .mv (.t 145)⟩])))))) (.seq (.reg 32 [⟨some 157, none, .mv (.t 9)⟩, ⟨some 158, none, .mv (.t 8)⟩, ⟨some 159, none, .bin .sub (.t 157) (.t 158)⟩, ⟨some 4, none, .mv (.t 159)⟩]) .ret)) .skip))) (.reg 26 [⟨some 125, none, .mv (.t 9)⟩, ⟨some 126, none, .bin .add (.t 125) (.c (.i .i64 1))⟩, ⟨some 9, none, .mv (.t 126)⟩])))))))))) (.seq (.reg 33 [⟨some 4, none, .mv (.c (.i .i64 (-1)))⟩]) .ret)))))))))))))))))⟩
theorem sw26 : qXD Tryd.prog Tryd.f26 = some w26 := by kernel_rfl
def w29 : CF := ⟨13, [.cell 4 (some 2), .t 5], .seq (.reg 0 [⟨some 4, none, .new true [.i .i64 0, .i .i64 0]⟩, ⟨some 5, none, .mv (.c (.b false))⟩]) (.seq (.seq (.reg 1 [⟨some 6, none, .mv (.t 0)⟩, ⟨some 7, none, .len true (.t 6)⟩, ⟨some 8, none, .mv (.t 1)⟩, ⟨some 9, none, .bin .gtr (.t 7) (.t 8)⟩]) (.cond (.t 9) (.seq (.reg 2 [⟨some 10, none, .mv (.t 1)⟩, ⟨some 11, none, .bld [.i .i64 0, .i .i64 0] [(0, 1, .c (.i .i64 4)), (1, 1, .t 10)]⟩, ⟨none, none, .st (some 2) (.t 4) (.t 11)⟩, ⟨some 5, none, .mv (.c (.b true))⟩]) .ret) .skip)) (.seq (.reg 3 [⟨some 12, none, .bld [.i .i64 0, .i .i64 0] []⟩, ⟨none, none, .st (some 2) (.t 4) (.t 12)⟩, ⟨some 5, none, .mv (.c (.b false))⟩]) .ret))⟩
theorem sw29 : qXD Tryd.prog Tryd.f29 = some w29 := by kernel_rfl
def w30 : CF := ⟨7, [.t 2], .seq (.reg 0 [⟨some 1, none, .box true 1 (.t 0)⟩, ⟨some 2, none, .mv (.c .np)⟩]) (.seq (.reg 1 [⟨some 3, none, .ld (some 1) (.t 1)⟩, ⟨some 4, none, .mkf (.func 44) [.t 3] []⟩, ⟨some 5, none, .bld [.nf, .b false] [(0, 1, .t 4)]⟩, ⟨some 6, none, .box false 2 (.t 5)⟩, ⟨some 2, none, .mv (.t 6)⟩]) .ret)⟩
theorem sw30 : qXD Tryd.prog Tryd.f30 = some w30 := by kernel_rfl
def w31 : CF := ⟨14, [.t 2], .seq (.reg 0 [⟨some 2, none, .mv (.c .np)⟩]) (.seq (.seq (.reg 1 [⟨some 3, none, .mv (.t 0)⟩, ⟨some 4, none, .bin .neq (.t 3) (.c (.i .i32 46))⟩, ⟨some 5, none, .mv (.t 4)⟩, ⟨some 6, some (5, true), .mv (.t 0)⟩, ⟨some 7, some (5, true), .bin .neq (.t 6) (.c (.i .i32 45))⟩, ⟨some 8, none, .pick (.t 5) (.t 7) (.c (.b false))⟩, ⟨some 9, none, .mv (.t 8)⟩, ⟨some 10, some (9, true), .mv (.t 0)⟩, ⟨some 11, some (9, true), .call (.c (.f (.func 32) [] [])) [.t 10]⟩, ⟨some 12, none, .pick (.t 9) (.t 11) (.c (.b false))⟩]) (.cond (.t 12) (.seq (.reg 2 [⟨some 13, none, .call (.c (.f (.func 33) [] [])) [.c (.f (.func 32) [] [])]⟩, ⟨some 2, none, .mv (.t 13)⟩]) .ret) .skip)) (.seq (.reg 3 [⟨some 2, none, .mv (.c .np)⟩]) .ret))⟩
theorem sw31 : qXD Tryd.prog Tryd.f31 = some w31 := by kernel_rfl
def w32 : CF := ⟨25, [.t 2], .seq (.reg 0 [⟨some 2, none, .mv (.c (.b false))⟩]) (.seq (.reg 1 [⟨some 3, none, .mv (.t 0)⟩, ⟨some 4, none, .call (.c (.f (.func 45) [] [])) [.t 3]⟩, ⟨some 5, none, .mv (.t 4)⟩, ⟨some 6, some (5, false), .mv (.t 0)⟩, ⟨some 7, some (5, false), .bin .geq (.t 6) (.c (.i .i32 65))⟩, ⟨some 8, some (5, false), .mv (.t 7)⟩, ⟨some 9, some (8, true), .mv (.t 0)⟩, ⟨some 10, some (8, true), .bin .leq (.t 9) (.c (.i .i32 90))⟩, ⟨some 11, some (5, false), .pick (.t 8) (.t 10) (.c (.b false))⟩, ⟨some 12, none, .pick (.t 5) (.c (.b true)) (.t 11)⟩, ⟨some 13, none, .mv (.t 12)⟩, ⟨some 14, some (13, false), .mv (.t 0)⟩, ⟨some 15, some (13, false), .bin .eql (.t 14) (.c (.i .i32 95))⟩, ⟨some 16, none, .pick (.t 13) (.c (.b true)) (.t 15)⟩, ⟨some 17, none, .mv (.t 16)⟩, ⟨some 18, some (17, false), .mv (.t 0)⟩, ⟨some 19, some (17, false), .bin .eql (.t 18) (.c (.i .i32 46))⟩, ⟨some 20, none, .pick (.t 17) (.c (.b true)) (.t 19)⟩, ⟨some 21, none, .mv (.t 20)⟩, ⟨some 22, some (21, false), .mv (.t 0)⟩, ⟨some 23, some (21, false), .bin .eql (.t 22) (.c (.i .i32 45))⟩, ⟨some 24, none, .pick (.t 21) (.c (.b true)) (.t 23)⟩, ⟨some 2, none, .mv (.t 24)⟩]) .ret)⟩
theorem sw32 : qXD Tryd.prog Tryd.f32 = some w32 := by kernel_rfl
def w33 : CF := ⟨8, [.t 2], .seq (.reg 0 [⟨some 1, none, .box false 1 (.t 0)⟩, ⟨some 2, none, .mv (.c .np)⟩]) (.seq (.reg 1 [⟨some 3, none, .new false [.np]⟩]) (.seq (.reg 2 [⟨some 4, none, .mkf (.func 46) [] [.t 1, .t 3]⟩, ⟨some 5, none, .bld [.nf, .b false] [(0, 1, .t 4), (1, 1, .c (.b true))]⟩, ⟨some 6, none, .box false 2 (.t 5)⟩, ⟨none, none, .st none (.t 3) (.t 6)⟩]) (.seq (.reg 3 [⟨some 7, none, .ld none (.t 3)⟩, ⟨some 2, none, .mv (.t 7)⟩]) .ret)))⟩
theorem sw33 : qXD Tryd.prog Tryd.f33 = some w33 := by kernel_rfl
def w34 : CF := ⟨8, [.t 4], .seq (.reg 0 [⟨some 4, none, .mv (.c (.b false))⟩]) (.seq (.reg 1 [⟨some 5, none, .mv (.t 0)⟩, ⟨some 6, none, .mv (.t 1)⟩, ⟨some 7, none, .call (.c (.f (.func 47) [] [])) [.t 5, .t 6]⟩, ⟨some 4, none, .mv (.t 7)⟩]) .ret)⟩
theorem sw34 : qXD Tryd.prog Tryd.f34 = some w34 := by kernel_rfl
def w36 : CF := ⟨13, [.t 4], .seq (.reg 0 [⟨some 2, none, .box true 1 (.t 0)⟩, ⟨some 4, none, .mv (.c .np)⟩]) (.seq (.seq (.reg 1 [⟨some 5, none, .mv (.t 1)⟩, ⟨some 6, none, .call (.c (.f (.func 45) [] [])) [.t 5]⟩]) (.cond (.t 6) (.seq (.reg 2 [⟨some 7, none, .ld (some 1) (.t 2)⟩, ⟨some 8, none, .mkf (.func 49) [.t 7] []⟩, ⟨some 9, none, .fad 0 (.t 2)⟩, ⟨some 10, none, .ld none (.t 9)⟩, ⟨some 11, none, .bld [.nf, .b false] [(0, 1, .t 8), (1, 1, .t 10)]⟩, ⟨some 12, none, .box false 2 (.t 11)⟩, ⟨some 4, none, .mv (.t 12)⟩]) .ret) .skip)) (.seq (.reg 3 [⟨some 4, none, .mv (.c .np)⟩]) .ret))⟩
theorem sw36 : qXD Tryd.prog Tryd.f36 = some w36 := by kernel_rfl
def w37 : CF := ⟨14, [.t 4], .seq (.reg 0 [⟨some 4, none, .mv (.c .np)⟩]) (.seq (.seq (.reg 1 [⟨some 5, none, .mv (.t 0)⟩, ⟨some 6, none, .ld none (.t 1)⟩, ⟨some 7, none, .ixs (.t 6) (.c (.i .i64 0))⟩, ⟨some 8, none, .cvi .i32 (.t 7)⟩, ⟨some 9, none, .bin .eql (.t 5) (.t 8)⟩]) (.cond (.t 9) (.seq (.drw 2 [⟨⟨some 10, none, .ld none (.t 1)⟩, 0, 2⟩, ⟨⟨some 11, none, .sls (.t 10) (some (.c (.i .i64 1))) none⟩, 1, 1024⟩, ⟨⟨some 12, none, .ld none (.t 2)⟩, 0, 4⟩, ⟨⟨some 13, none, .call (.c (.f (.func 24) [] [])) [.t 11, .t 12]⟩, 7, 6144⟩, ⟨⟨some 4, none, .mv (.t 13)⟩, 15, 8192⟩]) .ret) .skip)) (.seq (.reg 3 [⟨some 4, none, .mv (.c .np)⟩]) .ret))⟩
theorem sw37 : qXD Tryd.prog Tryd.f37 = some w37 := by kernel_rfl
def w38 : CF := ⟨13, [.t 3], .seq (.reg 0 [⟨some 3, none, .mv (.c .np)⟩]) (.seq (.seq (.reg 1 [⟨some 4, none, .ld none (.t 1)⟩, ⟨some 5, none, .bin .gtr (.t 4) (.c (.i .i64 0))⟩, ⟨some 6, none, .mv (.t 5)⟩, ⟨some 7, some (6, true), .mv (.t 0)⟩, ⟨some 8, some (6, true), .call (.c (.f (.func 39) [] [])) [.t 7]⟩, ⟨some 9, none, .pick (.t 6) (.t 8) (.c (.b false))⟩]) (.cond (.t 9) (.seq (.reg 2 [⟨some 10, none, .ld none (.t 1)⟩, ⟨some 11, none, .bin .sub (.t 10) (.c (.i .i64 1))⟩, ⟨some 12, none, .call (.c (.f (.func 25) [] [])) [.t 11]⟩, ⟨some 3, none, .mv (.t 12)⟩]) .ret) .skip)) (.seq (.reg 3 [⟨some 3, none, .mv (.c .np)⟩]) .ret))⟩
theorem sw38 : qXD Tryd.prog Tryd.f38 = some w38 := by kernel_rfl
def w39 : CF := ⟨17, [.t 2], .seq (.reg 0 [⟨some 2, none, .mv (.c (.b false))⟩]) (.seq (.reg 1 [⟨some 3, none, .mv (.t 0)⟩, ⟨some 4, none, .bin .geq (.t 3) (.c (.i .i32 48))⟩, ⟨some 5, none, .mv (.t 4)⟩, ⟨some 6, some (5, true), .mv (.t 0)⟩, ⟨some 7, some (5, true), .bin .leq (.t 6) (.c (.i .i32 57))⟩, ⟨some 8, none, .pick (.t 5) (.t 7) (.c (.b false))⟩, ⟨some 9, none, .mv (.t 8)⟩, ⟨some 10, some (9, false), .mv (.t 0)⟩, ⟨some 11, some (9, false), .bin .geq (.t 10) (.c (.i .i32 97))⟩, ⟨some 12, some (9, false), .mv (.t 11)⟩, ⟨some 13, some (12, true), .mv (.t 0)⟩, ⟨some 14, some (12, true), .bin .leq (.t 13) (.c (.i .i32 102))⟩, ⟨some 15, some (9, false), .pick (.t 12) (.t 14) (.c (.b false))⟩, ⟨some 16, none, .pick (.t 9) (.c (.b true)) (.t 15)⟩, ⟨some 2, none, .mv (.t 16)⟩]) .ret)⟩
theorem sw39 : qXD Tryd.prog Tryd.f39 = some w39 := by kernel_rfl
def w40 : CF := ⟨8, [.t 4], .seq (.reg 0 [⟨some 4, none, .mv (.c (.i .i64 0))⟩]) (.seq (.reg 1 [⟨some 5, none, .mv (.t 0)⟩, ⟨some 6, none, .mv (.t 1)⟩, ⟨some 7, none, .call (.c (.f (.func 50) [] [])) [.t 5, .t 6]⟩, ⟨some 4, none, .mv (.t 7)⟩]) .ret)⟩
theorem sw40 : qXD Tryd.prog Tryd.f40 = some w40 := by kernel_rfl
def w41 : CF := ⟨17, [.t 2], .seq (.reg 0 [⟨some 2, none, .mv (.c (.b false))⟩]) (.seq (.block 0 (.seq (.reg 1 [⟨some 4, none, .mv (.t 0)⟩, ⟨some 5, none, .bin .leq (.c (.i .i32 0)) (.t 4)⟩, ⟨some 6, none, .mv (.t 5)⟩, ⟨some 7, some (6, true), .mv (.t 0)⟩, ⟨some 8, some (6, true), .bin .lss (.t 7) (.c (.i .i32 55296))⟩, ⟨some 9, none, .pick (.t 6) (.t 8) (.c (.b false))⟩, ⟨some 3, none, .mv (.t 9)⟩]) (.cond (.t 3) (.seq (.reg 2 [⟨some 2, none, .mv (.c (.b true))⟩]) .ret) (.seq (.reg 3 [⟨some 11, none, .mv (.t 0)⟩, ⟨some 12, none, .bin .lss (.c (.i .i32 57343)) (.t 11)⟩, ⟨some 13, none, .mv (.t 12)⟩, ⟨some 14, some (13, true), .mv (.t 0)⟩, ⟨some 15, some (13, true), .bin .leq (.t 14) (.c (.i .i32 1114111))⟩, ⟨some 16, none, .pick (.t 13) (.t 15) (.c (.b false))⟩, ⟨some 10, none, .mv (.t 16)⟩]) (.cond (.t 10) (.seq (.reg 4 [⟨some 2, none, .mv (.c (.b true))⟩]) .ret) .skip))))) (.seq (.reg 5 [⟨some 2, none, .mv (.c (.b false))⟩]) .ret))⟩
theorem sw41 : qXD Tryd.prog Tryd.f41 = some w41 := by kernel_rfl
def w42 : CF := ⟨6, [.t 2], .seq (.reg 0 [⟨some 2, none, .mv (.c (.i .i64 0))⟩]) (.seq (.reg 1 [⟨some 3, none, .mv (.t 0)⟩, ⟨some 4, none, .bin .add (.t 3) (.c (.i .i64 16))⟩, ⟨some 5, none, .bin .quo (.t 4) (.c (.i .i64 8))⟩, ⟨some 2, none, .mv (.t 5)⟩]) .ret)⟩
theorem sw42 : qXD Tryd.prog Tryd.f42 = some w42 := by kernel_rfl
def w44 : CF := ⟨11, [.t 4], .seq (.reg 0 [⟨some 2, none, .box true 1 (.t 0)⟩, ⟨some 4, none, .mv (.c .np)⟩]) (.seq (.seq (.reg 1 [⟨some 5, none, .mv (.t 1)⟩, ⟨some 6, none, .call (.c (.f (.func 45) [] [])) [.t 5]⟩]) (.cond (.t 6) (.seq (.reg 2 [⟨some 7, none, .ld (some 1) (.t 2)⟩, ⟨some 8, none, .mkf (.func 51) [.t 7] []⟩, ⟨some 9, none, .bld [.nf, .b false] [(0, 1, .t 8), (1, 1, .c (.b true))]⟩, ⟨some 10, none, .box false 2 (.t 9)⟩, ⟨some 4, none, .mv (.t 10)⟩]) .ret) .skip)) (.seq (.reg 3 [⟨some 4, none, .mv (.c .np)⟩]) .ret))⟩
theorem sw44 : qXD Tryd.prog Tryd.f44 = some w44 := by kernel_rfl
def w45 : CF := ⟨17, [.t 2], .seq (.reg 0 [⟨some 2, none, .mv (.c (.b false))⟩]) (.seq (.reg 1 [⟨some 3, none, .mv (.t 0)⟩, ⟨some 4, none, .bin .geq (.t 3) (.c (.i .i32 97))⟩, ⟨some 5, none, .mv (.t 4)⟩, ⟨some 6, some (5, true), .mv (.t 0)⟩, ⟨some 7, some (5, true), .bin .leq (.t 6) (.c (.i .i32 122))⟩, ⟨some 8, none, .pick (.t 5) (.t 7) (.c (.b false))⟩, ⟨some 9, none, .mv (.t 8)⟩, ⟨some 10, some (9, false), .mv (.t 0)⟩, ⟨some 11, some (9, false), .bin .geq (.t 10) (.c (.i .i32 48))⟩, ⟨some 12, some (9, false), .mv (.t 11)⟩, ⟨some 13, some (12, true), .mv (.t 0)⟩, ⟨some 14, some (12, true), .bin .leq (.t 13) (.c (.i .i32 57))⟩, ⟨some 15, some (9, false), .pick (.t 12) (.t 14) (.c (.b false))⟩, ⟨some 16, none, .pick (.t 9) (.c (.b true)) (.t 15)⟩, ⟨some 2, none, .mv (.t 16)⟩]) .ret)⟩
theorem sw45 : qXD Tryd.prog Tryd.f45 = some w45 := by kernel_rfl
def w46 : CF := ⟨9, [.t 4], .seq (.reg 0 [⟨some 4, none, .mv (.c .np)⟩]) (.seq (.seq (.reg 1 [⟨some 5, none, .ld none (.t 1)⟩, ⟨some 6, none, .mv (.t 0)⟩, ⟨some 7, none, .call (.t 5) [.t 6]⟩]) (.cond (.t 7) (.seq (.reg 2 [⟨some 8, none, .ld none (.t 2)⟩, ⟨some 4, none, .mv (.t 8)⟩]) .ret) .skip)) (.seq (.reg 3 [⟨some 4, none, .mv (.c .np)⟩]) .ret))⟩
theorem sw46 : qXD Tryd.prog Tryd.f46 = some w46 := by kernel_rfl
def w47 : CF := ⟨18, [.t 4], .seq (.reg 0 [⟨some 4, none, .mv (.c (.b false))⟩]) (.seq (.reg 1 [⟨some 5, none, .mv (.t 0)⟩, ⟨some 6, none, .len true (.t 5)⟩, ⟨some 7, none, .mv (.t 1)⟩, ⟨some 8, none, .len true (.t 7)⟩, ⟨some 9, none, .bin .geq (.t 6) (.t 8)⟩, ⟨some 10, none, .mv (.t 9)⟩, ⟨some 11, some (10, true), .mv (.t 0)⟩, ⟨some 12, some (10, true), .mv (.t 1)⟩, ⟨some 13, some (10, true), .len true (.t 12)⟩, ⟨some 14, some (10, true), .sls (.t 11) none (some (.t 13))⟩, ⟨some 15, some (10, true), .mv (.t 1)⟩, ⟨some 16, some (10, true), .bin .eql (.t 14) (.t 15)⟩, ⟨some 17, none, .pick (.t 10) (.t 16) (.c (.b false))⟩, ⟨some 4, none, .mv (.t 17)⟩]) .ret)⟩
theorem sw47 : qXD Tryd.prog Tryd.f47 = some w47 := by kernel_rfl
def w49 : CF := ⟨19, [.t 4], .seq (.reg 0 [⟨some 2, none, .box true 1 (.t 0)⟩, ⟨some 4, none, .mv (.c .np)⟩]) (.seq (.seq (.reg 1 [⟨some 5, none, .mv (.t 1)⟩, ⟨some 6, none, .bin .eql (.t 5) (.c (.i .i32 47))⟩, ⟨some 7, none, .mv (.t 6)⟩, ⟨some 8, some (7, true), .fad 0 (.t 2)⟩, ⟨some 9, some (7, true), .ld none (.t 8)⟩, ⟨some 10, some (7, true), .un .not (.t 9)⟩, ⟨some 11, none, .pick (.t 7) (.t 10) (.c (.b false))⟩]) (.cond (.t 11) (.seq (.reg 2 [⟨some 12, none, .bld [.b false] [(0, 1, .c (.b true))]⟩, ⟨some 13, none, .mkf (.func 36) [.t 12] []⟩, ⟨some 14, none, .bld [.nf, .b false] [(0, 1, .t 13)]⟩, ⟨some 15, none, .box false 2 (.t 14)⟩, ⟨some 4, none, .mv (.t 15)⟩]) .ret) .skip)) (.seq (.reg 3 [⟨some 16, none, .ld (some 1) (.t 2)⟩, ⟨some 17, none, .mv (.t 1)⟩, ⟨some 18, none, .call (.c (.f (.func 36) [] [])) [.t 16, .t 17]⟩, ⟨some 4, none, .mv (.t 18)⟩]) .ret))⟩
theorem sw49 : qXD Tryd.prog Tryd.f49 = some w49 := by kernel_rfl
def w50 : CF := ⟨8, [.t 4], .seq (.reg 0 [⟨some 4, none, .mv (.c (.i .i64 0))⟩]) (.seq (.reg 1 [⟨some 5, none, .mv (.t 0)⟩, ⟨some 6, none, .mv (.t 1)⟩, ⟨some 7, none, .bix (.t 5) (.t 6)⟩, ⟨some 4, none, .mv (.t 7)⟩]) .ret)⟩
theorem sw50 : qXD Tryd.prog Tryd.f50 = some w50 := by kernel_rfl
def w51 : CF := ⟨42, [.t 4], .seq (.reg 0 [⟨some 2, none, .box true 1 (.t 0)⟩, ⟨some 4, none, .mv (.c .np)⟩]) (.seq (.block 0 (.seq (.reg 1 [⟨some 6, none, .mv (.t 1)⟩, ⟨some 7, none, .bin .eql (.t 6) (.c (.i .i32 47))⟩, ⟨some 8, none, .mv (.t 7)⟩, ⟨some 9, some (8, true), .fad 0 (.t 2)⟩, ⟨some 10, some (8, true), .ld none (.t 9)⟩, ⟨some 11, some (8, true), .bin .gtr (.t 10) (.c (.i .i64 0))⟩, ⟨some 12, none, .pick (.t 8) (.t 11) (.c (.b false))⟩, ⟨some 5, none, .mv (.t 12)⟩]) (.cond (.t 5) (.seq (.reg 2 [⟨some 13, none, .fad 0 (.t 2)⟩, ⟨some 14, none, .ld none (.t 13)⟩, ⟨some 15, none, .bin .sub (.t 14) (.c (.i .i64 1))⟩, ⟨some 16, none, .bld [.i .i64 0] [(0, 1, .t 15)]⟩, ⟨some 17, none, .call (.c (.f (.func 30) [] [])) [.t 16]⟩, ⟨some 4, none, .mv (.t 17)⟩]) .ret) (.seq (.reg 3 [⟨some 19, none, .mv (.t 1)⟩, ⟨some 20, none, .bin .eql (.t 19) (.c (.i .i32 46))⟩, ⟨some 18, none, .mv (.t 20)⟩]) (.cond (.t 18) (.seq (.reg 4 [⟨some 21, none, .ld (some 1) (.t 2)⟩, ⟨some 22, none, .mkf (.func 44) [.t 21] []⟩, ⟨some 23, none, .bld [.nf, .b false] [(0, 1, .t 22)]⟩, ⟨some 24, none, .box false 2 (.t 23)⟩, ⟨some 4, none, .mv (.t 24)⟩]) .ret) (.seq (.reg 5 [⟨some 26, none, .mv (.t 1)⟩, ⟨some 27, none, .bin .eql (.t 26) (.c (.i .i32 95))⟩, ⟨some 25, none, .mv (.t 27)⟩]) (.cond (.t 25) (.seq (.reg 6 [⟨some 28, none, .ld (some 1) (.t 2)⟩, ⟨some 29, none, .mkf (.func 54) [.t 28] []⟩, ⟨some 30, none, .bld [.nf, .b false] [(0, 1, .t 29)]⟩, ⟨some 31, none, .box false 2 (.t 30)⟩, ⟨some 4, none, .mv (.t 31)⟩]) .ret) (.seq (.reg 7 [⟨some 33, none, .mv (.t 1)⟩, ⟨some 34, none, .bin .eql (.t 33) (.c (.i .i32 45))⟩, ⟨some 32, none, .mv (.t 34)⟩]) (.cond (.t 32) (.seq (.reg 8 [⟨some 35, none, .ld (some 1) (.t 2)⟩, ⟨some 36, none, .mkf (.func 55) [.t 35] []⟩, ⟨some 37, none, .bld [.nf, .b false] [(0, 1, .t 36)]⟩, ⟨some 38, none, .box false 2 (.t 37)⟩, ⟨some 4, none, .mv (.t 38)⟩]) .ret) .skip))))))))) (.seq (.reg 9 [⟨some 39, none, .ld (some 1) (.t 2)⟩, ⟨some 40, none, .mv (.t 1)⟩, ⟨some 41, none, .call (.c (.f (.func 44) [] [])) [.t 39, .t 40]⟩, ⟨some 4, none, .mv (.t 41)⟩]) .ret))⟩
theorem sw51 : qXD Tryd.prog Tryd.f51 = some w51 := by kernel_rfl
def w54 : CF := ⟨14, [.t 4], .seq (.reg 0 [⟨some 2, none, .box true 1 (.t 0)⟩, ⟨some 4, none, .mv (.c .np)⟩]) (.seq (.seq (.reg 1 [⟨some 5, none, .mv (.t 1)⟩, ⟨some 6, none, .bin .eql (.t 5) (.c (.i .i32 95))⟩]) (.cond (.t 6) (.seq (.reg 2 [⟨some 7, none, .ld (some 1) (.t 2)⟩, ⟨some 8, none, .mkf (.func 44) [.t 7] []⟩, ⟨some 9, none, .bld [.nf, .b false] [(0, 1, .t 8)]⟩, ⟨some 10, none, .box false 2 (.t 9)⟩, ⟨some 4, none, .mv (.t 10)⟩]) .ret) .skip)) (.seq (.reg 3 [⟨some 11, none, .ld (some 1) (.t 2)⟩, ⟨some 12, none, .mv (.t 1)⟩, ⟨some 13, none, .call (.c (.f (.func 44) [] [])) [.t 11, .t 12]⟩, ⟨some 4, none, .mv (.t 13)⟩]) .ret))⟩
theorem sw54 : qXD Tryd.prog Tryd.f54 = some w54 := by kernel_rfl
def w55 : CF := ⟨14, [.t 4], .seq (.reg 0 [⟨some 2, none, .box true 1 (.t 0)⟩, ⟨some 4, none, .mv (.c .np)⟩]) (.seq (.seq (.reg 1 [⟨some 5, none, .mv (.t 1)⟩, ⟨some 6, none, .bin .eql (.t 5) (.c (.i .i32 45))⟩]) (.cond (.t 6) (.seq (.reg 2 [⟨some 7, none, .ld (some 1) (.t 2)⟩, ⟨some 8, none, .mkf (.func 55) [.t 7] []⟩, ⟨some 9, none, .bld [.nf, .b false] [(0, 1, .t 8)]⟩, ⟨some 10, none, .box false 2 (.t 9)⟩, ⟨some 4, none, .mv (.t 10)⟩]) .ret) .skip)) (.seq (.reg 3 [⟨some 11, none, .ld (some 1) (.t 2)⟩, ⟨some 12, none, .mv (.t 1)⟩, ⟨some 13, none, .call (.c (.f (.func 44) [] [])) [.t 11, .t 12]⟩, ⟨some 4, none, .mv (.t 13)⟩]) .ret))⟩
theorem sw55 : qXD Tryd.prog Tryd.f55 = some w55 := by kernel_rfl
end Go.Proofs.YthhghdebjiiliaaDoor
end
section
namespace Go.Proofs.YthhghdebjiiliaaDoor
set_option maxRecDepth 100000
set_option maxHeartbeats 4000000
def runB {Q : Type} (step : Q → Int → Option Q) (ends : Q → Bool) : List UInt8 → Nat → Q → Option Nat
 | [], pos, q => if ends q then none else some pos
 | b :: l, pos, q => match (if b.toNat < 128 then step q b.toNat else none) with
  | none => some pos
  | some q' => runB step ends l (pos + 1) q'
theorem J9H (x : List UInt8) : lenV (.s x) = some (x.length : Int) := _root_.id rfl
theorem qiT (x : List UInt8) : (AV.s x).isStr = true := _root_.id rfl
def fltA (e : Int) : Option Nat → AV
 | none => .ag [.i .i64 0, .i .i64 0]
 | some at' => .ag [.i .i64 e, .i .i64 at']
theorem XKe {l : List UInt8} {pos : Nat} (h : pos < l.length) (ha : ¬ (l[pos]).toNat < 128) : 128 ≤ (Utf8.decode ⟨l.toArray⟩ pos).1 := by
 have hs : pos < (⟨l.toArray⟩ : ByteArray).size := by simpa [ByteArray.size] using h
 exact (decode_high ⟨l.toArray⟩ pos hs (by show 128 ≤ (l[pos]).toNat; omega)).1
theorem Qit {Q : Type} {step : Q → Int → Option Q} {ends : Q → Bool} {s : List UInt8} {pos : Nat} {q : Q} (h : pos < s.length) : runB step ends (s.drop pos) pos q = match (if (s[pos]).toNat < 128 then step q (s[pos]).toNat else none) with
  | none => some pos
  | some q' => runB step ends (s.drop (pos + 1)) (pos + 1) q' := by
 rw [List.drop_eq_getElem_cons h]
 rfl
theorem Qww {Q : Type} {step : Q → Int → Option Q} (hbig : ∀ q c, 128 ≤ c → step q c = none) {s : List UInt8} {pos : Nat} (h : pos < s.length) (q : Q) :
  (if (s[pos]).toNat < 128 then step q (s[pos]).toNat else none) = step q ((Utf8.decode ⟨s.toArray⟩ pos).1 : Int) ∧ (∀ q', step q ((Utf8.decode ⟨s.toArray⟩ pos).1 : Int) = some q' → (Utf8.decode ⟨s.toArray⟩ pos).2 = 1) := by
 by_cases ha : (s[pos]).toNat < 128
 ·rw [if_pos ha, ZLa h ha]
  exact ⟨rfl, fun _ _ => rfl⟩
 ·rw [if_neg ha]
  have := hbig q _ (show (128 : Int) ≤ ((Utf8.decode ⟨s.toArray⟩ pos).1 : Int) by have := XKe h ha; omega)
  exact ⟨this.symm, fun q' e => by rw [this] at e; cases e⟩
end Go.Proofs.YthhghdebjiiliaaDoor
end
section
namespace Go.Proofs.YthhghdebjiiliaaDoor
set_option maxRecDepth 100000
set_option maxHeartbeats 4000000
theorem YuS {L : Int} (h1 : 0 ≤ L) (h2 : L ≤ 255) : IntKind.i32.wrap L = L := IntWalk.i32_in _ (by omega)
end Go.Proofs.YthhghdebjiiliaaDoor
end
section
namespace Go.Proofs.YthhghdebjiiliaaDoor
set_option maxRecDepth 100000
set_option maxHeartbeats 4000000
theorem Y1l (k : IntKind) (x : Int) : (AV.i k x).int? = some x := _root_.id rfl
end Go.Proofs.YthhghdebjiiliaaDoor
end
section
namespace Go.Proofs.YthhghdebjiiliaaDoor
set_option maxRecDepth 100000
set_option maxHeartbeats 4000000
def SameRd (H H' : List AB) : Prop := ∀ i cs, JZy H i = some cs → JZy H' i = some cs
theorem SameRd.app (H L : List AB) : SameRd H (H ++ L) := fun i cs e => by
 unfold JZy at e ⊢
 by_cases hi : i < H.length
 ·rw [List.getElem?_append_left hi]; exact e
 ·rw [List.getElem?_eq_none (by omega)] at e; cases e
theorem SameRd.it (h M : List AB) (A : AB) (s : List UInt8) (p p' : Nat) : SameRd (h ++ A :: itr s p :: M) (h ++ A :: itr s p' :: M) := fun i cs e => by
 unfold JZy at e ⊢
 by_cases hi : i < h.length
 ·rw [List.getElem?_append_left hi] at e ⊢; exact e
 ·rw [List.getElem?_append_right (by omega)] at e ⊢
  generalize i - h.length = k at e ⊢
  match k with
  | 0 => exact e
  | 1 => cases e
  | k + 2 => exact e
structure Aut (Tb : Tab) (Q : Type) where
 step : Q → Int → Option Q
 ends : Q → Bool
 Rep : List AB → Nat → Q → Prop
 big : ∀ q c, 128 ≤ c → step q c = none
 mono : ∀ {H H' j q}, SameRd H H' → Rep H j q → Rep H' j q
 cel : ∀ {H j q}, Rep H j q → ∃ g fst cap, JZy H j = some [.f (.func g) fst cap, .b (ends q)] ∧ ∀ c : Int,
  (step q c = none → Tb.at g (fst ++ [.i .i32 c] ++ cap) H = some (.np, H)) ∧
  ∀ q', step q c = some q' → ∃ j' L, Tb.at g (fst ++ [.i .i32 c] ++ cap) H = some (.p j' 0, H ++ L) ∧ Rep (H ++ L) j' q'
theorem runA {Tb : Tab} (hTb : Qkp (Spec Tryd.prog) Tb) {Q : Type} (A : Aut Tb Q) {h : List AB} {s : List UInt8} {j0 : Nat} {e : Int} {q0 : Q} (hj : A.Rep h j0 q0) (hs : s.length ≤ 1000000) :
  FnAt Tryd.prog 23 [.s s, .p j0 0, .i .i64 e] h (fltA e (runB A.step A.ends s 0 q0)) h := by
 refine FnAt.run (by kernel_rfl) (T := ⟨Tb, []⟩) ⟨hTb, trivial⟩ Tryd.func23 sw23 fun ho hh => ?_
 unfold w23
 have en0 : KoA .np .np = some true := rfl
 have en1 : ∀ a b, KoA (.p a b) .np = some false := fun _ _ => rfl
 simp only [XSG, YPr, XUb, KIu, Xgj, if_true, if_false, ↓reduceIte, Nat.reduceAdd, Nat.reduceSub, Nat.reduceLeDiff, Nat.reduceEqDiff, Nat.reduceMul, Nat.reduceLT, Int.reduceLT, Int.reduceLE, Int.reduceEq, CO.tmps, Opd.tmps, optT, Nat.reducePow, Nat.reduceDiv, Nat.reduceMod, qlo]
 refine q2Y (S := Nat × Q × Nat × List AB) (fun σ => s.length - σ.1) (fun σ => [.s s, .p σ.2.2.1 0, .i .i64 e] ++ tp 3 ++ [.p (h.length + 0) 0] ++ tp 3 ++ [.p (h.length + 1) 0] ++ tp 25) (fun σ => h ++ .blk true true [.i .i64 0, .i .i64 0] :: itr s σ.1 :: σ.2.2.2)
  (fun σ => σ.1 ≤ s.length ∧ A.Rep (h ++ .blk true true [.i .i64 0, .i .i64 0] :: itr s σ.1 :: σ.2.2.2) σ.2.2.1 σ.2.1 ∧ runB A.step A.ends (s.drop σ.1) σ.1 σ.2.1 = runB A.step A.ends s 0 q0) (0, q0, j0, []) ⟨Nat.zero_le _, A.mono (SameRd.app _ _) hj, rfl⟩ ?_ fun σ hσ => ?_
 ·refine Bt.wk ?_
  simp only [XUb, Xgj, if_true, if_false, reduceIte, Nat.reduceAdd, Nat.reduceSub, Nat.reduceLeDiff, Nat.reduceEqDiff, Nat.reduceMul, Nat.reduceLT, Int.reduceLT, Int.reduceLE, Int.reduceEq]
 obtain ⟨pos, q, j, M⟩ := σ
 obtain ⟨h1, h2, h4⟩ := hσ
 dsimp only at h1 h2 h4 ⊢
 have hn : nxV (h ++ .blk true true [.i .i64 0, .i .i64 0] :: itr s pos :: M) (.p (h.length + 1) 0) = if pos < s.length then some (.tu [.b true, .i .i64 (pos : Int), .i .i32 ((Utf8.decode ⟨s.toArray⟩ pos).1 : Int)], h ++ .blk true true [.i .i64 0, .i .i64 0] :: itr s (pos + (Utf8.decode ⟨s.toArray⟩ pos).2) :: M) else some (.tu [.b false], h ++ .blk true true [.i .i64 0, .i .i64 0] :: itr s pos :: M) := Jhu _ 1 s pos rfl
 by_cases g : pos < s.length
 ·have hd := Qit (step := A.step) (ends := A.ends) (q := q) g
  rw [h4] at hd
  obtain ⟨e1, e2⟩ := Qww (step := A.step) A.big g q
  rw [e1] at hd
  have h2' := A.mono (SameRd.it h M (.blk true true [.i .i64 0, .i .i64 0]) s pos (pos + (Utf8.decode ⟨s.toArray⟩ pos).2)) h2
  obtain ⟨gf, fst, cap, r1, r2⟩ := A.cel h2'
  obtain ⟨r3, r4⟩ := r2 ((Utf8.decode ⟨s.toArray⟩ pos).1 : Int)
  have lj0 : ldV (h ++ .blk true true [.i .i64 0, .i .i64 0] :: itr s (pos + (Utf8.decode ⟨s.toArray⟩ pos).2) :: M) none (.p j 0) = some (.f (.func gf) fst cap) := by
   simp only [ldV, r1, Option.bind_some]
   rfl
  cases hst : A.step q ((Utf8.decode ⟨s.toArray⟩ pos).1 : Int) with
  | none =>
   rw [hst] at hd
   dsimp only at hd
   have r5 := r3 hst
   simp only [XSG, YPr, XUb, KIu, Xgj, if_true, if_false, ↓reduceIte, Nat.reduceAdd, Nat.reduceSub, Nat.reduceLeDiff, Nat.reduceEqDiff, Nat.reduceMul, Nat.reduceLT, Int.reduceLT, Int.reduceLE, Int.reduceEq, CO.tmps, Opd.tmps, optT, Nat.reducePow, Nat.reduceDiv, Nat.reduceMod, Y1Q, hn, g, lj0, r5, en0, en1, decide_true, decide_false, ne_eq, not_false_eq_true, not_true_eq_false, false_implies, forall_const, and_true, true_and]
   rw [hd]
   exact Bt.drop _ hh rfl rfl
  | some q' =>
   have e3 := e2 q' hst
   rw [hst] at hd
   dsimp only at hd
   obtain ⟨j', L, r5, r6⟩ := r4 q' hst
   rw [e3] at hn lj0 r5 r6
   simp only [XSG, YPr, XUb, KIu, Xgj, if_true, if_false, ↓reduceIte, Nat.reduceAdd, Nat.reduceSub, Nat.reduceLeDiff, Nat.reduceEqDiff, Nat.reduceMul, Nat.reduceLT, Int.reduceLT, Int.reduceLE, Int.reduceEq, CO.tmps, Opd.tmps, optT, Nat.reducePow, Nat.reduceDiv, Nat.reduceMod, Y1Q, hn, g, lj0, r5, en0, en1, decide_true, decide_false, ne_eq, not_false_eq_true, not_true_eq_false, false_implies, forall_const, and_true, true_and]
   refine ⟨(pos + 1, q', j', M ++ L), ⟨g, ?_, hd.symm⟩, by dsimp only; omega, ?_⟩
   ·dsimp only
    rw [List.append_assoc, List.cons_append, List.cons_append] at r6
    exact r6
   ·dsimp only
    refine Bt.wk ?_
    simp only [XUb, Xgj, if_true, if_false, reduceIte, Nat.reduceAdd, Nat.reduceSub, Nat.reduceLeDiff, Nat.reduceEqDiff, Nat.reduceMul, Nat.reduceLT, Int.reduceLT, Int.reduceLE, Int.reduceEq]
 ·have hpos : pos = s.length := by omega
  have hd : runB A.step A.ends s 0 q0 = if A.ends q then none else some s.length := by
   rw [← h4, hpos, List.drop_length]
   rfl
  obtain ⟨gf, fst, cap, r1, _⟩ := A.cel h2
  have lj1 : ldV (h ++ .blk true true [.i .i64 0, .i .i64 0] :: itr s pos :: M) none (.p j 1) = some (.b (A.ends q)) := by
   simp only [ldV, r1, Option.bind_some]
   rfl
  cases he : A.ends q with
  | true =>
   rw [he] at hd lj1
   simp only [XSG, YPr, XUb, KIu, Xgj, if_true, if_false, ↓reduceIte, Nat.reduceAdd, Nat.reduceSub, Nat.reduceLeDiff, Nat.reduceEqDiff, Nat.reduceMul, Nat.reduceLT, Int.reduceLT, Int.reduceLE, Int.reduceEq, CO.tmps, Opd.tmps, optT, Nat.reducePow, Nat.reduceDiv, Nat.reduceMod, Y1Q, hn, g, lj1, zQy, Bool.not_true, Bool.not_false, J9H, qiT, decide_true, decide_false, ne_eq, not_false_eq_true, not_true_eq_false, false_implies, forall_const, and_true, true_and]
   rw [hd]
   exact Bt.drop _ hh rfl rfl
  | false =>
   rw [he] at hd lj1
   simp only [XSG, YPr, XUb, KIu, Xgj, if_true, if_false, ↓reduceIte, Nat.reduceAdd, Nat.reduceSub, Nat.reduceLeDiff, Nat.reduceEqDiff, Nat.reduceMul, Nat.reduceLT, Int.reduceLT, Int.reduceLE, Int.reduceEq, CO.tmps, Opd.tmps, optT, Nat.reducePow, Nat.reduceDiv, Nat.reduceMod, Y1Q, hn, g, lj1, zQy, Bool.not_true, Bool.not_false, J9H, qiT, decide_true, decide_false, ne_eq, not_false_eq_true, not_true_eq_false, false_implies, forall_const, and_true, true_and]
   rw [hd]
   exact Bt.drop _ hh rfl rfl
end Go.Proofs.YthhghdebjiiliaaDoor
end
section
namespace Go.Proofs.YthhghdebjiiliaaDoor
set_option maxRecDepth 100000
set_option maxHeartbeats 4000000
theorem zKe {P : Program} {p : Nat} {a : AV} {h : List AB} : Bt P p [a] (h ++ []) [a] h := by
 rw [List.append_nil]
 exact Bt.wk1 (Wk.refl _)
theorem zYT (h L : List AB) (k : Nat) (fl m : Bool) (xs : List AV) (e : L[k]? = some (.blk fl m xs)) : JZy (h ++ L) (h.length + k) = some xs := by
 unfold JZy
 rw [List.getElem?_append_right (by omega), Nat.add_sub_cancel_left, e]
end Go.Proofs.YthhghdebjiiliaaDoor
end
