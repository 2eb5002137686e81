/- Part 16 of what the laws' proofs rest on. No condition. -/
import Derived.Laws.RangeAny
import Derived.Test.YtbcpcjofkfgjoaaPj15
set_option linter.all false
section
namespace Go.Proofs.Ytbcpcjofkfgjoaa
set_option maxRecDepth 100000
def w89 : CF := ⟨187, [.t 4], .seq (.reg 0 [⟨some 4, none, .mv (.c (.i .i64 0))⟩]) (.block 0 (.seq (.reg 34 [⟨some 161, none, .mv (.t 1)⟩, ⟨some 162, none, .bin .leq (.c (.i .i32 0)) (.t 161)⟩, ⟨some 163, none, .mv (.t 162)⟩, ⟨some 164, some (163, true), .mv (.t 1)⟩, ⟨some 165, some (163, true), .bin .lss (.t 164) (.c (.i .i32 128))⟩, ⟨some 166, none, .pick (.t 163) (.t 165) (.c (.b false))⟩, ⟨some 160, none, .mv (.t 166)⟩]) (.cond (.t 160) (.seq (.reg 35 [⟨some 167, none, .mv (.t 0)⟩, ⟨some 168, none, .mv (.t 1)⟩, ⟨some 169, none, .cvi .u8 (.t 168)⟩, ⟨some 170, none, .call (.c (.f (.func 94) [] [])) [.t 167, .t 169]⟩, ⟨some 4, none, .mv (.t 170)⟩]) .ret) (.seq (.reg 36 [⟨some 172, none, .mv (.t 1)⟩, ⟨some 173, none, .bin .eql (.t 172) (.c (.i .i32 65533))⟩, ⟨some 171, none, .mv (.t 173)⟩]) (.cond (.t 171) (.seq (.seq (.reg 37 [⟨some 174, none, .mv (.t 0)⟩, ⟨some 175, none, .rng (.t 174)⟩]) (.block 9 (.loop (.seq (.reg 38 [⟨some 176, none, .nxt (.t 175)⟩, ⟨some 177, none, .ext (.t 176) 0⟩]) (.seq (.cond (.t 177) .skip (.exit 9)) (.block 10 (.seq (.reg 39 [⟨some 178, none, .ext (.t 176) 1⟩, ⟨some 179, none, .ext (.t 176) 2⟩, ⟨some 5, none, .mv (.t 178)⟩, ⟨some 6, none, .mv (.t 179)⟩]) (.seq (.reg 40 [⟨some 180, none, .mv (.t 6)⟩, ⟨some 181, none, .bin .eql (.t 180) (.c (.i .i32 65533))⟩]) (.cond (.t 181) (.seq (.reg 41 [⟨some 182, none, .mv (.t 5)⟩, ⟨some 4, none, .mv (.t 182)⟩]) .ret) .skip))))))))) (.seq (.reg 42 [⟨some 4, none, .mv (.c (.i .i64 (-1)))⟩]) .ret)) (.seq (.reg 43 [⟨some 184, none, .mv (.t 1)⟩, ⟨some 185, none, .call (.c (.f (.func 95) [] [])) [.t 184]⟩, ⟨some 186, none, .un .not (.t 185)⟩, ⟨some 183, none, .mv (.t 186)⟩]) (.cond (.t 183) (.seq (.reg 44 [⟨some 4, none, .mv (.c (.i .i64 (-1)))⟩]) .ret) (.scope (.seq (.reg 1 [⟨some 17, none, .mv (.t 1)⟩, ⟨some 18, none, .stop⟩, ⟨some 7, none, .mv (.t 18)⟩]) (.seq (.reg 2 [⟨some 19, none, .mv (.t 7)⟩, ⟨some 20, none, .len true (.t 19)⟩, ⟨some 21, none, .bin .sub (.t 20) (.c (.i .i64 1))⟩, ⟨some 8, none, .mv (.t 21)⟩]) (.seq (.reg 3 [⟨some 22, none, .mv (.t 8)⟩, ⟨some 9, none, .mv (.t 22)⟩]) (.seq (.reg 4 [⟨some 10, none, .mv (.c (.i .i64 0))⟩]) (.seq (.block 1 (.loop (.seq (.seq (.reg 5 [⟨some 23, none, .mv (.t 9)⟩, ⟨some 24, none, .mv (.t 0)⟩, ⟨some 25, none, .len true (.t 24)⟩, ⟨some 26, none, .bin .lss (.t 23) (.t 25)⟩]) (.cond (.t 26) .skip (.exit 1))) (.block 2 (.scope (.seq (.seq (.drw 6 [⟨⟨some 27, none, .mv (.t 0)⟩, 0, 1⟩, ⟨⟨some 28, none, .mv (.t 9)⟩, 0, 512⟩, ⟨⟨some 29, none, .ixs (.t 27) (.t 28)⟩, 3, 402653184⟩, ⟨⟨some 30, none, .mv (.t 7)⟩, 0, 128⟩, ⟨⟨some 31, none, .mv (.t 8)⟩, 0, 256⟩, ⟨⟨some 32, none, .ixs (.t 30) (.t 31)⟩, 24, 3221225472⟩, ⟨⟨some 33, none, .bin .neq (.t 29) (.t 32)⟩, 63, 4831838208⟩]) (.cond (.t 33) (.seq (.drw 7 [⟨⟨some 34, none, .mv (.t 0)⟩, 0, 1⟩, ⟨⟨some 35, none, .mv (.t 9)⟩, 0, 512⟩, ⟨⟨some 36, none, .bin .add (.t 35) (.c (.i .i64 1))⟩, 2, 34359738368⟩, ⟨⟨some 37, none, .sls (.t 34) (some (.t 36)) none⟩, 7, 85899345920⟩, ⟨⟨some 38, none, .mv (.t 7)⟩, 0, 128⟩, ⟨⟨some 39, none, .mv (.t 8)⟩, 0, 256⟩, ⟨⟨some 40, none, .ixs (.t 38) (.t 39)⟩, 48, 824633720832⟩, ⟨⟨some 41, none, .call (.c (.f (.func 94) [] [])) [.t 37, .t 40]⟩, 127, 1236950581248⟩, ⟨⟨some 11, none, .mv (.t 41)⟩, 255, 2199023255552⟩]) (.seq (.seq (.reg 8 [⟨some 42, none, .mv (.t 11)⟩, ⟨some 43, none, .bin .lss (.t 42) (.c (.i .i64 0))⟩]) (.cond (.t 43) (.seq (.reg 9 [⟨some 4, none, .mv (.c (.i .i64 (-1)))⟩]) .ret) .skip)) (.reg 10 [⟨some 44, none, .mv (.t 9)⟩, ⟨some 45, none, .mv (.t 11)⟩, ⟨some 46, none, .bin .add (.t 45) (.c (.i .i64 1))⟩, ⟨some 47, none, .bin .add (.t 44) (.t 46)⟩, ⟨some 9, none, .mv (.t 47)⟩]))) .skip)) (.seq (.seq (.reg 11 [⟨some 12, none, .mv (.c (.i .i64 1))⟩]) (.block 3 (.loop (.seq (.seq (.reg 12 [⟨some 48, none, .mv (.t 12)⟩, ⟨some 49, none, .mv (.t 7)⟩, ⟨some 50, none, .len true (.t 49)⟩, ⟨some 51, none, .bin .lss (.t 48) (.t 50)⟩]) (.cond (.t 51) .skip (.exit 3))) (.seq (.block 4 (.seq (.drw 14 [⟨⟨some 54, none, .mv (.t 0)⟩, 0, 1⟩, ⟨⟨some 55, none, .mv (.t 9)⟩, 0, 512⟩, ⟨⟨some 56, none, .mv (.t 12)⟩, 0, 4096⟩, ⟨⟨some 57, none, .bin .sub (.t 55) (.t 56)⟩, 6, 108086391056891904⟩, ⟨⟨some 58, none, .ixs (.t 54) (.t 57)⟩, 15, 162129586585337856⟩, ⟨⟨some 59, none, .mv (.t 7)⟩, 0, 128⟩, ⟨⟨some 60, none, .mv (.t 8)⟩, 0, 256⟩, ⟨⟨some 61, none, .mv (.t 12)⟩, 0, 4096⟩, ⟨⟨some 62, none, .bin .sub (.t 60) (.t 61)⟩, 192, 3458764513820540928⟩, ⟨⟨some 63, none, .ixs (.t 59) (.t 62)⟩, 480, 5188146770730811392⟩, ⟨⟨some 64, none, .bin .neq (.t 58) (.t 63)⟩, 1023, 9511602413006487552⟩]) (.cond (.t 64) .stop .skip))) (.reg 13 [⟨some 52, none, .mv (.t 12)⟩, ⟨some 53, none, .bin .add (.t 52) (.c (.i .i64 1))⟩, ⟨some 12, none, .mv (.t 53)⟩])))))) (.seq (.seq (.reg 15 [⟨some 65, none, .mv (.t 9)⟩, ⟨some 66, none, .mv (.t 8)⟩, ⟨some 67, none, .bin .sub (.t 65) (.t 66)⟩, ⟨some 4, none, .mv (.t 67)⟩]) .ret) (.seq .skip (.seq (.reg 16 [⟨some 68, none, .mv (.t 10)⟩, ⟨some 69, none, .bin .add (.t 68) (.c (.i .i64 1))⟩, ⟨some 10, none, .mv (.t 69)⟩]) (.seq (.reg 17 [⟨some 70, none, .mv (.t 9)⟩, ⟨some 71, none, .bin .add (.t 70) (.c (.i .i64 1))⟩, ⟨some 9, none, .mv (.t 71)⟩]) (.seq (.reg 18 [⟨some 72, none, .mv (.c (.b true))⟩, ⟨some 73, some (72, true), .mv (.t 10)⟩, ⟨some 74, some (72, true), .mv (.t 9)⟩, ⟨some 75, some (72, true), .call (.c (.f (.func 96) [] [])) [.t 74]⟩, ⟨some 76, some (72, true), .bin .gtr (.t 73) (.t 75)⟩, ⟨some 77, none, .pick (.t 72) (.t 76) (.c (.b false))⟩, ⟨some 78, none, .mv (.t 77)⟩, ⟨some 79, some (78, true), .mv (.t 9)⟩, ⟨some 80, some (78, true), .mv (.t 0)⟩, ⟨some 81, some (78, true), .len true (.t 80)⟩, ⟨some 82, some (78, true), .bin .lss (.t 79) (.t 81)⟩, ⟨some 83, none, .pick (.t 78) (.t 82) (.c (.b false))⟩, ⟨some 84, none, .mv (.t 83)⟩, ⟨some 85, some (84, false), .mv (.c (.b false))⟩, ⟨some 86, some (85, true), .mv (.t 10)⟩, ⟨some 87, some (85, true), .mv (.t 9)⟩, ⟨some 88, some (85, true), .bin .shr (.t 87) (.c (.i .u64 4))⟩, ⟨some 89, some (85, true), .bin .add (.c (.i .i64 4)) (.t 88)⟩, ⟨some 90, some (85, true), .bin .geq (.t 86) (.t 89)⟩, ⟨some 91, some (84, false), .pick (.t 85) (.t 90) (.c (.b false))⟩, ⟨some 92, some (84, false), .mv (.t 91)⟩, ⟨some 93, some (92, true), .mv (.t 9)⟩, ⟨some 94, some (92, true), .mv (.t 0)⟩, ⟨some 95, some (92, true), .len true (.t 94)⟩, ⟨some 96, some (92, true), .bin .lss (.t 93) (.t 95)⟩, ⟨some 97, some (84, false), .pick (.t 92) (.t 96) (.c (.b false))⟩, ⟨some 98, none, .pick (.t 84) (.c (.b true)) (.t 97)⟩]) (.cond (.t 98) .stop .skip))))))))))))) (.seq (.seq (.reg 19 [⟨some 4, none, .mv (.c (.i .i64 (-1)))⟩]) .ret) (.seq .skip (.seq (.cond (.c (.b true)) (.seq (.reg 20 [⟨some 99, none, .mv (.t 0)⟩, ⟨some 100, none, .mv (.t 9)⟩, ⟨some 101, none, .mv (.t 8)⟩, ⟨some 102, none, .bin .sub (.t 100) (.t 101)⟩, ⟨some 103, none, .sls (.t 99) (some (.t 102)) none⟩, ⟨some 104, none, .mv (.t 1)⟩, ⟨some 105, none, .stop⟩, ⟨some 106, none, .call (.c (.f (.func 97) [] [])) [.t 103, .t 105]⟩, ⟨some 13, none, .mv (.t 106)⟩]) (.seq (.reg 21 [⟨some 107, none, .mv (.t 13)⟩, ⟨some 108, none, .bin .geq (.t 107) (.c (.i .i64 0))⟩]) (.cond (.t 108) (.seq (.reg 22 [⟨some 109, none, .mv (.t 9)⟩, ⟨some 110, none, .mv (.t 13)⟩, ⟨some 111, none, .bin .add (.t 109) (.t 110)⟩, ⟨some 112, none, .mv (.t 8)⟩, ⟨some 113, none, .bin .sub (.t 111) (.t 112)⟩, ⟨some 4, none, .mv (.t 113)⟩]) .ret) .skip))) (.scope (.seq (.reg 23 [⟨some 114, none, .mv (.t 7)⟩, ⟨some 115, none, .mv (.t 8)⟩, ⟨some 116, none, .ixs (.t 114) (.t 115)⟩, ⟨some 14, none, .mv (.t 116)⟩]) (.seq (.reg 24 [⟨some 117, none, .mv (.t 7)⟩, ⟨some 118, none, .mv (.t 8)⟩, ⟨some 119, none, .bin .sub (.t 118) (.c (.i .i64 1))⟩, ⟨some 120, none, .ixs (.t 117) (.t 119)⟩, ⟨some 15, none, .mv (.t 120)⟩]) (.seq .skip (.block 5 (.loop (.seq (.seq (.reg 25 [⟨some 121, none, .mv (.t 9)⟩, ⟨some 122, none, .mv (.t 0)⟩, ⟨some 123, none, .len true (.t 122)⟩, ⟨some 124, none, .bin .lss (.t 121) (.t 123)⟩]) (.cond (.t 124) .skip (.exit 5))) (.seq (.block 6 (.seq (.reg 27 [⟨some 127, none, .mv (.t 0)⟩, ⟨some 128, none, .mv (.t 9)⟩, ⟨some 129, none, .ixs (.t 127) (.t 128)⟩, ⟨some 130, none, .mv (.t 14)⟩, ⟨some 131, none, .bin .eql (.t 129) (.t 130)⟩, ⟨some 132, none, .mv (.t 131)⟩, ⟨some 133, some (132, true), .mv (.t 0)⟩, ⟨some 134, some (132, true), .mv (.t 9)⟩, ⟨some 135, some (132, true), .bin .sub (.t 134) (.c (.i .i64 1))⟩, ⟨some 136, some (132, true), .ixs (.t 133) (.t 135)⟩, ⟨some 137, some (132, true), .mv (.t 15)⟩, ⟨some 138, some (132, true), .bin .eql (.t 136) (.t 137)⟩, ⟨some 139, none, .pick (.t 132) (.t 138) (.c (.b false))⟩]) (.cond (.t 139) (.seq (.seq (.reg 28 [⟨some 16, none, .mv (.c (.i .i64 2))⟩]) (.block 7 (.loop (.seq (.seq (.reg 29 [⟨some 140, none, .mv (.t 16)⟩, ⟨some 141, none, .mv (.t 7)⟩, ⟨some 142, none, .len true (.t 141)⟩, ⟨some 143, none, .bin .lss (.t 140) (.t 142)⟩]) (.cond (.t 143) .skip (.exit 7))) (.seq (.block 8 (.seq (.drw 31 [⟨⟨some 146, none, .mv (.t 0)⟩, 0, 1⟩, ⟨⟨some 147, none, .mv (.t 9)⟩, 0, 512⟩, ⟨⟨some 148, none, .mv (.t 16)⟩, 0, 65536⟩, ⟨⟨some 149, none, .bin .sub (.t 147) (.t 148)⟩, 6, 535217884764734955396857238543560676143529984⟩, ⟨⟨some 150, none, .ixs (.t 146) (.t 149)⟩, 15, 802826827147102433095285857815341014215294976⟩, ⟨⟨some 151, none, .mv (.t 7)⟩, 0, 128⟩, ⟨⟨some 152, none, .mv (.t 8)⟩, 0, 256⟩, ⟨⟨some 153, none, .mv (.t 16)⟩, 0, 65536⟩, ⟨⟨some 154, none, .bin .sub (.t 152) (.t 153)⟩, 192, 17126972312471518572699431633393941636592959488⟩, ⟨⟨some 155, none, .ixs (.t 151) (.t 154)⟩, 480, 25690458468707277859049147450090912454889439232⟩, ⟨⟨some 156, none, .bin .neq (.t 150) (.t 155)⟩, 1023, 47099173859296676074923436991833339500630638592⟩]) (.cond (.t 156) (.exit 6) .skip))) (.reg 30 [⟨some 144, none, .mv (.t 16)⟩, ⟨some 145, none, .bin .add (.t 144) (.c (.i .i64 1))⟩, ⟨some 16, none, .mv (.t 145)⟩])))))) (.seq (.reg 32 [⟨some 157, none, .mv (.t 9)⟩, ⟨some 158, none, .mv (.t 8)⟩, ⟨some 159, none, .bin .sub (.t 157) (.t 158)⟩, ⟨some 4, none, .mv (.t 159)⟩]) .ret)) .skip))) (.reg 26 [⟨some 125, none, .mv (.t 9)⟩, ⟨some 126, none, .bin .add (.t 125) (.c (.i .i64 1))⟩, ⟨some 9, none, .mv (.t 126)⟩])))))))))) (.seq (.reg 33 [⟨some 4, none, .mv (.c (.i .i64 (-1)))⟩]) .ret)))))))))))))))))⟩
theorem sw89 : ZHt Try.prog Try.f89 = some w89 := by kernel_rfl
def w90 : CF := ⟨42, [.t 4], .seq (.reg 0 [⟨some 2, none, .box true 1 (.t 0)⟩, ⟨some 4, none, .mv (.c .np)⟩]) (.seq (.block 0 (.seq (.reg 1 [⟨some 6, none, .mv (.t 1)⟩, ⟨some 7, none, .bin .eql (.t 6) (.c (.i .i32 47))⟩, ⟨some 8, none, .mv (.t 7)⟩, ⟨some 9, some (8, true), .fad 0 (.t 2)⟩, ⟨some 10, some (8, true), .ld none (.t 9)⟩, ⟨some 11, some (8, true), .bin .gtr (.t 10) (.c (.i .i64 0))⟩, ⟨some 12, none, .pick (.t 8) (.t 11) (.c (.b false))⟩, ⟨some 5, none, .mv (.t 12)⟩]) (.cond (.t 5) (.seq (.reg 2 [⟨some 13, none, .fad 0 (.t 2)⟩, ⟨some 14, none, .ld none (.t 13)⟩, ⟨some 15, none, .bin .sub (.t 14) (.c (.i .i64 1))⟩, ⟨some 16, none, .bld [.i .i64 0] [(0, 1, .t 15)]⟩, ⟨some 17, none, .call (.c (.f (.func 72) [] [])) [.t 16]⟩, ⟨some 4, none, .mv (.t 17)⟩]) .ret) (.seq (.reg 3 [⟨some 19, none, .mv (.t 1)⟩, ⟨some 20, none, .bin .eql (.t 19) (.c (.i .i32 46))⟩, ⟨some 18, none, .mv (.t 20)⟩]) (.cond (.t 18) (.seq (.reg 4 [⟨some 21, none, .ld (some 1) (.t 2)⟩, ⟨some 22, none, .mkf (.func 84) [.t 21] []⟩, ⟨some 23, none, .bld [.nf, .b false] [(0, 1, .t 22)]⟩, ⟨some 24, none, .box false 2 (.t 23)⟩, ⟨some 4, none, .mv (.t 24)⟩]) .ret) (.seq (.reg 5 [⟨some 26, none, .mv (.t 1)⟩, ⟨some 27, none, .bin .eql (.t 26) (.c (.i .i32 95))⟩, ⟨some 25, none, .mv (.t 27)⟩]) (.cond (.t 25) (.seq (.reg 6 [⟨some 28, none, .ld (some 1) (.t 2)⟩, ⟨some 29, none, .mkf (.func 98) [.t 28] []⟩, ⟨some 30, none, .bld [.nf, .b false] [(0, 1, .t 29)]⟩, ⟨some 31, none, .box false 2 (.t 30)⟩, ⟨some 4, none, .mv (.t 31)⟩]) .ret) (.seq (.reg 7 [⟨some 33, none, .mv (.t 1)⟩, ⟨some 34, none, .bin .eql (.t 33) (.c (.i .i32 45))⟩, ⟨some 32, none, .mv (.t 34)⟩]) (.cond (.t 32) (.seq (.reg 8 [⟨some 35, none, .ld (some 1) (.t 2)⟩, ⟨some 36, none, .mkf (.func 99) [.t 35] []⟩, ⟨some 37, none, .bld [.nf, .b false] [(0, 1, .t 36)]⟩, ⟨some 38, none, .box false 2 (.t 37)⟩, ⟨some 4, none, .mv (.t 38)⟩]) .ret) .skip))))))))) (.seq (.reg 9 [⟨some 39, none, .ld (some 1) (.t 2)⟩, ⟨some 40, none, .mv (.t 1)⟩, ⟨some 41, none, .call (.c (.f (.func 84) [] [])) [.t 39, .t 40]⟩, ⟨some 4, none, .mv (.t 41)⟩]) .ret))⟩
theorem sw90 : ZHt Try.prog Try.f90 = some w90 := by kernel_rfl
def w91 : CF := ⟨14, [.t 4], .seq (.reg 0 [⟨some 4, none, .mv (.c .np)⟩]) (.seq (.seq (.reg 1 [⟨some 5, none, .mv (.t 0)⟩, ⟨some 6, none, .ld none (.t 1)⟩, ⟨some 7, none, .ixs (.t 6) (.c (.i .i64 0))⟩, ⟨some 8, none, .cvi .i32 (.t 7)⟩, ⟨some 9, none, .bin .eql (.t 5) (.t 8)⟩]) (.cond (.t 9) (.seq (.drw 2 [⟨⟨some 10, none, .ld none (.t 1)⟩, 0, 2⟩, ⟨⟨some 11, none, .sls (.t 10) (some (.c (.i .i64 1))) none⟩, 1, 1024⟩, ⟨⟨some 12, none, .ld none (.t 2)⟩, 0, 4⟩, ⟨⟨some 13, none, .call (.c (.f (.func 87) [] [])) [.t 11, .t 12]⟩, 7, 6144⟩, ⟨⟨some 4, none, .mv (.t 13)⟩, 15, 8192⟩]) .ret) .skip)) (.seq (.reg 3 [⟨some 4, none, .mv (.c .np)⟩]) .ret))⟩
theorem sw91 : ZHt Try.prog Try.f91 = some w91 := by kernel_rfl
def w92 : CF := ⟨13, [.t 3], .seq (.reg 0 [⟨some 3, none, .mv (.c .np)⟩]) (.seq (.seq (.reg 1 [⟨some 4, none, .ld none (.t 1)⟩, ⟨some 5, none, .bin .gtr (.t 4) (.c (.i .i64 0))⟩, ⟨some 6, none, .mv (.t 5)⟩, ⟨some 7, some (6, true), .mv (.t 0)⟩, ⟨some 8, some (6, true), .call (.c (.f (.func 93) [] [])) [.t 7]⟩, ⟨some 9, none, .pick (.t 6) (.t 8) (.c (.b false))⟩]) (.cond (.t 9) (.seq (.reg 2 [⟨some 10, none, .ld none (.t 1)⟩, ⟨some 11, none, .bin .sub (.t 10) (.c (.i .i64 1))⟩, ⟨some 12, none, .call (.c (.f (.func 88) [] [])) [.t 11]⟩, ⟨some 3, none, .mv (.t 12)⟩]) .ret) .skip)) (.seq (.reg 3 [⟨some 3, none, .mv (.c .np)⟩]) .ret))⟩
theorem sw92 : ZHt Try.prog Try.f92 = some w92 := by kernel_rfl
def w93 : CF := ⟨17, [.t 2], .seq (.reg 0 [⟨some 2, none, .mv (.c (.b false))⟩]) (.seq (.reg 1 [⟨some 3, none, .mv (.t 0)⟩, ⟨some 4, none, .bin .geq (.t 3) (.c (.i .i32 48))⟩, ⟨some 5, none, .mv (.t 4)⟩, ⟨some 6, some (5, true), .mv (.t 0)⟩, ⟨some 7, some (5, true), .bin .leq (.t 6) (.c (.i .i32 57))⟩, ⟨some 8, none, .pick (.t 5) (.t 7) (.c (.b false))⟩, ⟨some 9, none, .mv (.t 8)⟩, ⟨some 10, some (9, false), .mv (.t 0)⟩, ⟨some 11, some (9, false), .bin .geq (.t 10) (.c (.i .i32 97))⟩, ⟨some 12, some (9, false), .mv (.t 11)⟩, ⟨some 13, some (12, true), .mv (.t 0)⟩, ⟨some 14, some (12, true), .bin .leq (.t 13) (.c (.i .i32 102))⟩, ⟨some 15, some (9, false), .pick (.t 12) (.t 14) (.c (.b false))⟩, ⟨some 16, none, .pick (.t 9) (.c (.b true)) (.t 15)⟩, ⟨some 2, none, .mv (.t 16)⟩]) .ret)⟩
theorem sw93 : ZHt Try.prog Try.f93 = some w93 := by kernel_rfl
def w94 : CF := ⟨8, [.t 4], .seq (.reg 0 [⟨some 4, none, .mv (.c (.i .i64 0))⟩]) (.seq (.reg 1 [⟨some 5, none, .mv (.t 0)⟩, ⟨some 6, none, .mv (.t 1)⟩, ⟨some 7, none, .call (.c (.f (.func 100) [] [])) [.t 5, .t 6]⟩, ⟨some 4, none, .mv (.t 7)⟩]) .ret)⟩
theorem sw94 : ZHt Try.prog Try.f94 = some w94 := by kernel_rfl
def w95 : CF := ⟨17, [.t 2], .seq (.reg 0 [⟨some 2, none, .mv (.c (.b false))⟩]) (.seq (.block 0 (.seq (.reg 1 [⟨some 4, none, .mv (.t 0)⟩, ⟨some 5, none, .bin .leq (.c (.i .i32 0)) (.t 4)⟩, ⟨some 6, none, .mv (.t 5)⟩, ⟨some 7, some (6, true), .mv (.t 0)⟩, ⟨some 8, some (6, true), .bin .lss (.t 7) (.c (.i .i32 55296))⟩, ⟨some 9, none, .pick (.t 6) (.t 8) (.c (.b false))⟩, ⟨some 3, none, .mv (.t 9)⟩]) (.cond (.t 3) (.seq (.reg 2 [⟨some 2, none, .mv (.c (.b true))⟩]) .ret) (.seq (.reg 3 [⟨some 11, none, .mv (.t 0)⟩, ⟨some 12, none, .bin .lss (.c (.i .i32 57343)) (.t 11)⟩, ⟨some 13, none, .mv (.t 12)⟩, ⟨some 14, some (13, true), .mv (.t 0)⟩, ⟨some 15, some (13, true), .bin .leq (.t 14) (.c (.i .i32 1114111))⟩, ⟨some 16, none, .pick (.t 13) (.t 15) (.c (.b false))⟩, ⟨some 10, none, .mv (.t 16)⟩]) (.cond (.t 10) (.seq (.reg 4 [⟨some 2, none, .mv (.c (.b true))⟩]) .ret) .skip))))) (.seq (.reg 5 [⟨some 2, none, .mv (.c (.b false))⟩]) .ret))⟩
theorem sw95 : ZHt Try.prog Try.f95 = some w95 := by kernel_rfl
def w96 : CF := ⟨6, [.t 2], .seq (.reg 0 [⟨some 2, none, .mv (.c (.i .i64 0))⟩]) (.seq (.reg 1 [⟨some 3, none, .mv (.t 0)⟩, ⟨some 4, none, .bin .add (.t 3) (.c (.i .i64 16))⟩, ⟨some 5, none, .bin .quo (.t 4) (.c (.i .i64 8))⟩, ⟨some 2, none, .mv (.t 5)⟩]) .ret)⟩
theorem sw96 : ZHt Try.prog Try.f96 = some w96 := by kernel_rfl
def w98 : CF := ⟨14, [.t 4], .seq (.reg 0 [⟨some 2, none, .box true 1 (.t 0)⟩, ⟨some 4, none, .mv (.c .np)⟩]) (.seq (.seq (.reg 1 [⟨some 5, none, .mv (.t 1)⟩, ⟨some 6, none, .bin .eql (.t 5) (.c (.i .i32 95))⟩]) (.cond (.t 6) (.seq (.reg 2 [⟨some 7, none, .ld (some 1) (.t 2)⟩, ⟨some 8, none, .mkf (.func 84) [.t 7] []⟩, ⟨some 9, none, .bld [.nf, .b false] [(0, 1, .t 8)]⟩, ⟨some 10, none, .box false 2 (.t 9)⟩, ⟨some 4, none, .mv (.t 10)⟩]) .ret) .skip)) (.seq (.reg 3 [⟨some 11, none, .ld (some 1) (.t 2)⟩, ⟨some 12, none, .mv (.t 1)⟩, ⟨some 13, none, .call (.c (.f (.func 84) [] [])) [.t 11, .t 12]⟩, ⟨some 4, none, .mv (.t 13)⟩]) .ret))⟩
theorem sw98 : ZHt Try.prog Try.f98 = some w98 := by kernel_rfl
def w99 : CF := ⟨14, [.t 4], .seq (.reg 0 [⟨some 2, none, .box true 1 (.t 0)⟩, ⟨some 4, none, .mv (.c .np)⟩]) (.seq (.seq (.reg 1 [⟨some 5, none, .mv (.t 1)⟩, ⟨some 6, none, .bin .eql (.t 5) (.c (.i .i32 45))⟩]) (.cond (.t 6) (.seq (.reg 2 [⟨some 7, none, .ld (some 1) (.t 2)⟩, ⟨some 8, none, .mkf (.func 99) [.t 7] []⟩, ⟨some 9, none, .bld [.nf, .b false] [(0, 1, .t 8)]⟩, ⟨some 10, none, .box false 2 (.t 9)⟩, ⟨some 4, none, .mv (.t 10)⟩]) .ret) .skip)) (.seq (.reg 3 [⟨some 11, none, .ld (some 1) (.t 2)⟩, ⟨some 12, none, .mv (.t 1)⟩, ⟨some 13, none, .call (.c (.f (.func 84) [] [])) [.t 11, .t 12]⟩, ⟨some 4, none, .mv (.t 13)⟩]) .ret))⟩
theorem sw99 : ZHt Try.prog Try.f99 = some w99 := by kernel_rfl
def w100 : CF := ⟨8, [.t 4], .seq (.reg 0 [⟨some 4, none, .mv (.c (.i .i64 0))⟩]) (.seq (.reg 1 [⟨some 5, none, .mv (.t 0)⟩, ⟨some 6, none, .mv (.t 1)⟩, ⟨some 7, none, .bix (.t 5) (.t 6)⟩, ⟨some 4, none, .mv (.t 7)⟩]) .ret)⟩
theorem Xjs : ZHt Try.prog Try.f100 = some w100 := by kernel_rfl
end Go.Proofs.Ytbcpcjofkfgjoaa
end
section
namespace Go.Proofs.Ytbcpcjofkfgjoaa
set_option maxRecDepth 100000
set_option maxHeartbeats 4000000
def lowP (c : Int) : Prop := (97 ≤ c ∧ c ≤ 122) ∨ (48 ≤ c ∧ c ≤ 57)
instance (c : Int) : Decidable (lowP c) := inferInstanceAs (Decidable (_ ∨ _))
def Z5O : List AV → List AB → Option (AV × List AB)
 | [.i .i32 c], h => some (.b (decide (lowP c)), h)
 | _, _ => none
theorem Jt1 : Spec Try.prog 85 Z5O := by
 intro args h v h' e
 unfold Z5O at e
 split at e
 ·rename_i c
  cases e
  refine FnAt.c (FnAt.run (by kernel_rfl) (T := ⟨[], []⟩) ⟨trivial, trivial⟩ Try.func85 sw85 fun ho hh => ?_)
  unfold w85
  by_cases h1 : 97 ≤ c <;> by_cases h2 : c ≤ 122 <;> by_cases h3 : 48 ≤ c <;> by_cases h4 : c ≤ 57 <;>
   (simp only [KXL, JuQ, QbA, KI8, qi4, simprocAttr, CO.tmps, Opd.tmps, optT, Nat.reducePow, Nat.reduceDiv, Nat.reduceMod, h1, h2, h3, h4, decide_true, decide_false]; exact Bt.dropB _ hh (by simp [lowP, h1, h2, h3, h4]))
 ·cases e
inductive RK where
 | w
 | i
 | s
 | d
deriving DecidableEq
structure RQ where
 left : Nat
 k : RK
deriving DecidableEq
def q8f (n : Nat) (c : Int) : Option RQ := if lowP c then some ⟨n, .i⟩ else none
def ZJo (q : RQ) (c : Int) : Option RQ :=
 match q.k with
 | .w => q8f q.left c
 | .i => if c = 47 ∧ 0 < q.left then some ⟨q.left - 1, .w⟩ else if c = 46 then some ⟨q.left, .w⟩ else if c = 95 then some ⟨q.left, .s⟩ else if c = 45 then some ⟨q.left, .d⟩ else q8f q.left c
 | .s => if c = 95 then some ⟨q.left, .w⟩ else q8f q.left c
 | .d => if c = 45 then some ⟨q.left, .d⟩ else q8f q.left c
def fnR : RK → Nat
 | .w => 84
 | .i => 90
 | .s => 98
 | .d => 99
def stR (q : RQ) : AB := .blk false true [.f (.func (fnR q.k)) [.ag [.i .i64 q.left]] [], .b (decide (q.k = .i))]
theorem Qc7 (n : Nat) : stR ⟨n, .w⟩ = .blk false true [.f (.func 84) [.ag [.i .i64 n]] [], .b false] := _root_.id rfl
theorem QNC (n : Nat) : stR ⟨n, .i⟩ = .blk false true [.f (.func 90) [.ag [.i .i64 n]] [], .b true] := _root_.id rfl
theorem Zdk (n : Nat) : stR ⟨n, .s⟩ = .blk false true [.f (.func 98) [.ag [.i .i64 n]] [], .b false] := _root_.id rfl
theorem Xa9 (n : Nat) : stR ⟨n, .d⟩ = .blk false true [.f (.func 99) [.ag [.i .i64 n]] [], .b false] := _root_.id rfl
def ansR (h : List AB) : Option RQ → Option (AV × List AB)
 | some q => some (.p h.length 0, h ++ [stR q])
 | none => some (.np, h)
def YLl (k : RK) : List AV → List AB → Option (AV × List AB)
 | [.ag [.i .i64 n], .i .i32 c], h => if 0 ≤ n ∧ n ≤ 1000 then ansR h (ZJo ⟨n.toNat, k⟩ c) else none
 | _, _ => none
def QlW : List AV → List AB → Option (AV × List AB)
 | [.ag [.i .i64 n]], h => if 0 ≤ n ∧ n ≤ 1000 then some (.p h.length 0, h ++ [stR ⟨n.toNat, .w⟩]) else none
 | _, _ => none
theorem KUl : Spec Try.prog 72 QlW := by
 intro args h v h' e
 unfold QlW at e
 split at e
 ·rename_i n
  split at e
  ·rename_i hn
   cases e
   refine FnAt.c (FnAt.run (by kernel_rfl) (T := ⟨[], []⟩) ⟨trivial, trivial⟩ Try.func72 sw72 fun ho hh => ?_)
   have en : ((n.toNat : Nat) : Int) = n := by omega
   unfold w72
   simp only [KXL, JuQ, QbA, KI8, qi4, simprocAttr, CO.tmps, Opd.tmps, optT, Nat.reducePow, Nat.reduceDiv, Nat.reduceMod]
   rw [Qc7, en]
   exact Bt.sel [1] hh (by decide) (by simp only [KOx, FrSel, BlkSel, AV.ren, renL, AV.ok, okL, Option.some.injEq, exists_eq_left', List.length_cons, List.length_nil, Nat.reduceAdd, Nat.reduceLT, reduceCtorEq, implies_true, exists_eq']) (by simp only [KOx, FrSel, BlkSel, AV.ren, renL, AV.ok, okL, Option.some.injEq, exists_eq_left', List.length_cons, List.length_nil, Nat.reduceAdd, Nat.reduceLT, reduceCtorEq, implies_true, exists_eq'])
  ·cases e
 ·cases e
theorem XgG : Spec Try.prog 84 (YLl .w) := by
 intro args h v h' e
 unfold YLl at e
 split at e
 ·rename_i n c
  split at e
  ·rename_i hn
   have en : ((n.toNat : Nat) : Int) = n := by omega
   refine FnAt.c (FnAt.run (by kernel_rfl) (T := ⟨[⟨85, Z5O, fun _ => []⟩], []⟩) ⟨⟨Jt1, trivial⟩, trivial⟩ Try.func84 sw84 fun ho hh => ?_)
   unfold w84
   simp only [ZJo, q8f] at e
   by_cases h1 : lowP c
   ·rw [if_pos h1] at e
    cases e
    simp only [KXL, JuQ, QbA, KI8, qi4, simprocAttr, CO.tmps, Opd.tmps, optT, Nat.reducePow, Nat.reduceDiv, Nat.reduceMod, Z5O, eq_true h1, decide_true, decide_false, ne_eq, not_false_eq_true, not_true_eq_false, false_implies, forall_const, and_true, true_and]
    rw [QNC, en]
    exact Bt.sel [1] hh (by decide) (by simp only [KOx, FrSel, BlkSel, AV.ren, renL, AV.ok, okL, Option.some.injEq, exists_eq_left', List.length_cons, List.length_nil, Nat.reduceAdd, Nat.reduceLT, reduceCtorEq, implies_true, exists_eq']) (by simp only [KOx, FrSel, BlkSel, AV.ren, renL, AV.ok, okL, Option.some.injEq, exists_eq_left', List.length_cons, List.length_nil, Nat.reduceAdd, Nat.reduceLT, reduceCtorEq, implies_true, exists_eq'])
   ·rw [if_neg h1] at e
    cases e
    simp only [KXL, JuQ, QbA, KI8, qi4, simprocAttr, CO.tmps, Opd.tmps, optT, Nat.reducePow, Nat.reduceDiv, Nat.reduceMod, Z5O, eq_false h1, decide_true, decide_false, ne_eq, not_false_eq_true, not_true_eq_false, false_implies, forall_const, and_true, true_and]
    exact Bt.drop _ hh rfl rfl
  ·cases e
 ·cases e
theorem XFN {h : List AB} {o : Option RQ} {v : AV} {h' : List AB} (e : ansR h o = some (v, h')) : (∃ q, o = some q ∧ v = .p h.length 0 ∧ h' = h ++ [stR q]) ∨ (o = none ∧ v = .np ∧ h' = h) := by
 cases o with
 | some q => cases e; exact .inl ⟨q, rfl, rfl, rfl⟩
 | none => cases e; exact .inr ⟨rfl, rfl, rfl⟩
theorem Ym9 : Spec Try.prog 98 (YLl .s) := by
 intro args h v h' e
 unfold YLl at e
 split at e
 ·rename_i n c
  split at e
  ·rename_i hn
   have en : ((n.toNat : Nat) : Int) = n := by omega
   have hn' := eq_true hn
   refine FnAt.c (FnAt.run (by kernel_rfl) (T := ⟨[⟨84, YLl .w, fun _ => []⟩], []⟩) ⟨⟨XgG, trivial⟩, trivial⟩ Try.func98 sw98 fun ho hh => ?_)
   unfold w98
   simp only [ZJo] at e
   by_cases h1 : c = 95
   ·rw [if_pos h1] at e
    cases e
    simp only [KXL, JuQ, QbA, KI8, qi4, simprocAttr, CO.tmps, Opd.tmps, optT, Nat.reducePow, Nat.reduceDiv, Nat.reduceMod, eq_true h1, decide_true, decide_false, ne_eq, not_false_eq_true, not_true_eq_false, false_implies, forall_const, and_true, true_and]
    rw [Qc7, en]
    exact Bt.sel [1] hh (by decide) (by simp only [KOx, FrSel, BlkSel, AV.ren, renL, AV.ok, okL, Option.some.injEq, exists_eq_left', List.length_cons, List.length_nil, Nat.reduceAdd, Nat.reduceLT, reduceCtorEq, implies_true, exists_eq']) (by simp only [KOx, FrSel, BlkSel, AV.ren, renL, AV.ok, okL, Option.some.injEq, exists_eq_left', List.length_cons, List.length_nil, Nat.reduceAdd, Nat.reduceLT, reduceCtorEq, implies_true, exists_eq'])
   ·rw [if_neg h1] at e
    have es : ∀ H, YLl .w [.ag [.i .i64 n], .i .i32 c] H = ansR H (q8f n.toNat c) := fun H => by
     show (if 0 ≤ n ∧ n ≤ 1000 then ansR H (ZJo ⟨n.toNat, .w⟩ c) else none) = _
     rw [if_pos hn]
     rfl
    rcases XFN e with ⟨q, q1, rfl, rfl⟩ | ⟨q1, rfl, rfl⟩
    ·simp only [KXL, JuQ, QbA, KI8, qi4, simprocAttr, CO.tmps, Opd.tmps, optT, Nat.reducePow, Nat.reduceDiv, Nat.reduceMod, eq_false h1, es, q1, ansR, decide_true, decide_false, ne_eq, not_false_eq_true, not_true_eq_false, false_implies, forall_const, and_true, true_and]
     exact Bt.sel [1] hh (by decide) (by simp only [KOx, FrSel, BlkSel, AV.ren, renL, AV.ok, okL, Option.some.injEq, exists_eq_left', List.length_cons, List.length_nil, Nat.reduceAdd, Nat.reduceLT, reduceCtorEq, implies_true, exists_eq', stR]) (by simp only [KOx, FrSel, BlkSel, AV.ren, renL, AV.ok, okL, Option.some.injEq, exists_eq_left', List.length_cons, List.length_nil, Nat.reduceAdd, Nat.reduceLT, reduceCtorEq, implies_true, exists_eq'])
    ·simp only [KXL, JuQ, QbA, KI8, qi4, simprocAttr, CO.tmps, Opd.tmps, optT, Nat.reducePow, Nat.reduceDiv, Nat.reduceMod, eq_false h1, es, q1, ansR, decide_true, decide_false, ne_eq, not_false_eq_true, not_true_eq_false, false_implies, forall_const, and_true, true_and]
     exact Bt.drop _ hh rfl rfl
  ·cases e
 ·cases e
theorem Kl5 : Spec Try.prog 99 (YLl .d) := by
 intro args h v h' e
 unfold YLl at e
 split at e
 ·rename_i n c
  split at e
  ·rename_i hn
   have en : ((n.toNat : Nat) : Int) = n := by omega
   have hn' := eq_true hn
   refine FnAt.c (FnAt.run (by kernel_rfl) (T := ⟨[⟨84, YLl .w, fun _ => []⟩], []⟩) ⟨⟨XgG, trivial⟩, trivial⟩ Try.func99 sw99 fun ho hh => ?_)
   unfold w99
   simp only [ZJo] at e
   by_cases h1 : c = 45
   ·rw [if_pos h1] at e
    cases e
    simp only [KXL, JuQ, QbA, KI8, qi4, simprocAttr, CO.tmps, Opd.tmps, optT, Nat.reducePow, Nat.reduceDiv, Nat.reduceMod, eq_true h1, decide_true, decide_false, ne_eq, not_false_eq_true, not_true_eq_false, false_implies, forall_const, and_true, true_and]
    rw [Xa9, en]
    exact Bt.sel [1] hh (by decide) (by simp only [KOx, FrSel, BlkSel, AV.ren, renL, AV.ok, okL, Option.some.injEq, exists_eq_left', List.length_cons, List.length_nil, Nat.reduceAdd, Nat.reduceLT, reduceCtorEq, implies_true, exists_eq']) (by simp only [KOx, FrSel, BlkSel, AV.ren, renL, AV.ok, okL, Option.some.injEq, exists_eq_left', List.length_cons, List.length_nil, Nat.reduceAdd, Nat.reduceLT, reduceCtorEq, implies_true, exists_eq'])
   ·rw [if_neg h1] at e
    have es : ∀ H, YLl .w [.ag [.i .i64 n], .i .i32 c] H = ansR H (q8f n.toNat c) := fun H => by
     show (if 0 ≤ n ∧ n ≤ 1000 then ansR H (ZJo ⟨n.toNat, .w⟩ c) else none) = _
     rw [if_pos hn]
     rfl
    rcases XFN e with ⟨q, q1, rfl, rfl⟩ | ⟨q1, rfl, rfl⟩
    ·simp only [KXL, JuQ, QbA, KI8, qi4, simprocAttr, CO.tmps, Opd.tmps, optT, Nat.reducePow, Nat.reduceDiv, Nat.reduceMod, eq_false h1, es, q1, ansR, decide_true, decide_false, ne_eq, not_false_eq_true, not_true_eq_false, false_implies, forall_const, and_true, true_and]
     exact Bt.sel [1] hh (by decide) (by simp only [KOx, FrSel, BlkSel, AV.ren, renL, AV.ok, okL, Option.some.injEq, exists_eq_left', List.length_cons, List.length_nil, Nat.reduceAdd, Nat.reduceLT, reduceCtorEq, implies_true, exists_eq', stR]) (by simp only [KOx, FrSel, BlkSel, AV.ren, renL, AV.ok, okL, Option.some.injEq, exists_eq_left', List.length_cons, List.length_nil, Nat.reduceAdd, Nat.reduceLT, reduceCtorEq, implies_true, exists_eq'])
    ·simp only [KXL, JuQ, QbA, KI8, qi4, simprocAttr, CO.tmps, Opd.tmps, optT, Nat.reducePow, Nat.reduceDiv, Nat.reduceMod, eq_false h1, es, q1, ansR, decide_true, decide_false, ne_eq, not_false_eq_true, not_true_eq_false, false_implies, forall_const, and_true, true_and]
     exact Bt.drop _ hh rfl rfl
  ·cases e
 ·cases e
theorem ZkI : Spec Try.prog 90 (YLl .i) := by
 intro args h v h' e
 unfold YLl at e
 split at e
 ·rename_i n c
  split at e
  ·rename_i hn
   have en : ((n.toNat : Nat) : Int) = n := by omega
   refine FnAt.c (FnAt.run (by kernel_rfl) (T := ⟨[⟨84, YLl .w, fun _ => []⟩, ⟨72, QlW, fun _ => []⟩], []⟩) ⟨⟨XgG, KUl, trivial⟩, trivial⟩ Try.func90 sw90 fun ho hh => ?_)
   unfold w90
   have es : ∀ H, YLl .w [.ag [.i .i64 n], .i .i32 c] H = ansR H (q8f n.toNat c) := fun H => by
    show (if 0 ≤ n ∧ n ≤ 1000 then ansR H (ZJo ⟨n.toNat, .w⟩ c) else none) = _
    rw [if_pos hn]
    rfl
   simp only [ZJo] at e
   by_cases h1 : c = 47
   ·subst h1
    by_cases h0 : 0 < n
    ·rw [if_pos ⟨rfl, by omega⟩] at e
     cases e
     have ew : IntKind.i64.wrap (n - 1) = n - 1 := YBD (by unfold In64; omega)
     have ep : ∀ H, QlW [.ag [.i .i64 (n - 1)]] H = some (.p H.length 0, H ++ [stR ⟨n.toNat - 1, .w⟩]) := fun H => by
      show (if 0 ≤ n - 1 ∧ n - 1 ≤ 1000 then some (AV.p H.length 0, H ++ [stR ⟨(n - 1).toNat, .w⟩]) else none) = _
      rw [if_pos (by omega), show (n - 1).toNat = n.toNat - 1 by omega]
     have h0' := eq_true h0
     simp only [KXL, JuQ, QbA, KI8, qi4, simprocAttr, CO.tmps, Opd.tmps, optT, Nat.reducePow, Nat.reduceDiv, Nat.reduceMod, h0', ew, ep, decide_true, decide_false, ne_eq, not_false_eq_true, not_true_eq_false, false_implies, forall_const, and_true, true_and]
     exact Bt.sel [1] hh (by decide) (by simp only [KOx, FrSel, BlkSel, AV.ren, renL, AV.ok, okL, Option.some.injEq, exists_eq_left', List.length_cons, List.length_nil, Nat.reduceAdd, Nat.reduceLT, reduceCtorEq, implies_true, exists_eq', stR]) (by simp only [KOx, FrSel, BlkSel, AV.ren, renL, AV.ok, okL, Option.some.injEq, exists_eq_left', List.length_cons, List.length_nil, Nat.reduceAdd, Nat.reduceLT, reduceCtorEq, implies_true, exists_eq'])
    ·rw [if_neg (fun q => h0 (by omega)), if_neg (by decide), if_neg (by decide), if_neg (by decide)] at e
     have h0' := eq_false h0
     rcases XFN e with ⟨q, q1, rfl, rfl⟩ | ⟨q1, rfl, rfl⟩
     ·simp only [KXL, JuQ, QbA, KI8, qi4, simprocAttr, CO.tmps, Opd.tmps, optT, Nat.reducePow, Nat.reduceDiv, Nat.reduceMod, h0', es, q1, ansR, decide_true, decide_false, ne_eq, not_false_eq_true, not_true_eq_false, false_implies, forall_const, and_true, true_and]
      exact Bt.sel [1] hh (by decide) (by simp only [KOx, FrSel, BlkSel, AV.ren, renL, AV.ok, okL, Option.some.injEq, exists_eq_left', List.length_cons, List.length_nil, Nat.reduceAdd, Nat.reduceLT, reduceCtorEq, implies_true, exists_eq', stR]) (by simp only [KOx, FrSel, BlkSel, AV.ren, renL, AV.ok, okL, Option.some.injEq, exists_eq_left', List.length_cons, List.length_nil, Nat.reduceAdd, Nat.reduceLT, reduceCtorEq, implies_true, exists_eq'])
     ·simp only [KXL, JuQ, QbA, KI8, qi4, simprocAttr, CO.tmps, Opd.tmps, optT, Nat.reducePow, Nat.reduceDiv, Nat.reduceMod, h0', es, q1, ansR, decide_true, decide_false, ne_eq, not_false_eq_true, not_true_eq_false, false_implies, forall_const, and_true, true_and]
      exact Bt.drop _ hh rfl rfl
   have h1' := eq_false h1
   rw [if_neg (fun q => h1 q.1)] at e
   by_cases h2 : c = 46
   ·rw [if_pos h2] at e
    cases e
    simp only [KXL, JuQ, QbA, KI8, qi4, simprocAttr, CO.tmps, Opd.tmps, optT, Nat.reducePow, Nat.reduceDiv, Nat.reduceMod, h1', eq_true h2, decide_true, decide_false, ne_eq, not_false_eq_true, not_true_eq_false, false_implies, forall_const, and_true, true_and]
    rw [Qc7, en]
    exact Bt.sel [1] hh (by decide) (by simp only [KOx, FrSel, BlkSel, AV.ren, renL, AV.ok, okL, Option.some.injEq, exists_eq_left', List.length_cons, List.length_nil, Nat.reduceAdd, Nat.reduceLT, reduceCtorEq, implies_true, exists_eq']) (by simp only [KOx, FrSel, BlkSel, AV.ren, renL, AV.ok, okL, Option.some.injEq, exists_eq_left', List.length_cons, List.length_nil, Nat.reduceAdd, Nat.reduceLT, reduceCtorEq, implies_true, exists_eq'])
   have h2' := eq_false h2
   rw [if_neg h2] at e
   by_cases h3 : c = 95
   ·rw [if_pos h3] at e
    cases e
    simp only [KXL, JuQ, QbA, KI8, qi4, simprocAttr, CO.tmps, Opd.tmps, optT, Nat.reducePow, Nat.reduceDiv, Nat.reduceMod, h1', h2', eq_true h3, decide_true, decide_false, ne_eq, not_false_eq_true, not_true_eq_false, false_implies, forall_const, and_true, true_and]
    rw [Zdk, en]
    exact Bt.sel [1] hh (by decide) (by simp only [KOx, FrSel, BlkSel, AV.ren, renL, AV.ok, okL, Option.some.injEq, exists_eq_left', List.length_cons, List.length_nil, Nat.reduceAdd, Nat.reduceLT, reduceCtorEq, implies_true, exists_eq']) (by simp only [KOx, FrSel, BlkSel, AV.ren, renL, AV.ok, okL, Option.some.injEq, exists_eq_left', List.length_cons, List.length_nil, Nat.reduceAdd, Nat.reduceLT, reduceCtorEq, implies_true, exists_eq'])
   have h3' := eq_false h3
   rw [if_neg h3] at e
   by_cases h4 : c = 45
   ·rw [if_pos h4] at e
    cases e
    simp only [KXL, JuQ, QbA, KI8, qi4, simprocAttr, CO.tmps, Opd.tmps, optT, Nat.reducePow, Nat.reduceDiv, Nat.reduceMod, h1', h2', h3', eq_true h4, decide_true, decide_false, ne_eq, not_false_eq_true, not_true_eq_false, false_implies, forall_const, and_true, true_and]
    rw [Xa9, en]
    exact Bt.sel [1] hh (by decide) (by simp only [KOx, FrSel, BlkSel, AV.ren, renL, AV.ok, okL, Option.some.injEq, exists_eq_left', List.length_cons, List.length_nil, Nat.reduceAdd, Nat.reduceLT, reduceCtorEq, implies_true, exists_eq']) (by simp only [KOx, FrSel, BlkSel, AV.ren, renL, AV.ok, okL, Option.some.injEq, exists_eq_left', List.length_cons, List.length_nil, Nat.reduceAdd, Nat.reduceLT, reduceCtorEq, implies_true, exists_eq'])
   have h4' := eq_false h4
   rw [if_neg h4] at e
   rcases XFN e with ⟨q, q1, rfl, rfl⟩ | ⟨q1, rfl, rfl⟩
   ·simp only [KXL, JuQ, QbA, KI8, qi4, simprocAttr, CO.tmps, Opd.tmps, optT, Nat.reducePow, Nat.reduceDiv, Nat.reduceMod, h1', h2', h3', h4', es, q1, ansR, decide_true, decide_false, ne_eq, not_false_eq_true, not_true_eq_false, false_implies, forall_const, and_true, true_and]
    exact Bt.sel [1] hh (by decide) (by simp only [KOx, FrSel, BlkSel, AV.ren, renL, AV.ok, okL, Option.some.injEq, exists_eq_left', List.length_cons, List.length_nil, Nat.reduceAdd, Nat.reduceLT, reduceCtorEq, implies_true, exists_eq', stR]) (by simp only [KOx, FrSel, BlkSel, AV.ren, renL, AV.ok, okL, Option.some.injEq, exists_eq_left', List.length_cons, List.length_nil, Nat.reduceAdd, Nat.reduceLT, reduceCtorEq, implies_true, exists_eq'])
   ·simp only [KXL, JuQ, QbA, KI8, qi4, simprocAttr, CO.tmps, Opd.tmps, optT, Nat.reducePow, Nat.reduceDiv, Nat.reduceMod, h1', h2', h3', h4', es, q1, ansR, decide_true, decide_false, ne_eq, not_false_eq_true, not_true_eq_false, false_implies, forall_const, and_true, true_and]
    exact Bt.drop _ hh rfl rfl
  ·cases e
 ·cases e
end Go.Proofs.Ytbcpcjofkfgjoaa
end
section
namespace Go.Proofs.Ytbcpcjofkfgjoaa
set_option maxRecDepth 100000
set_option maxHeartbeats 4000000
def runB {Q : Type} (step : Q → Int → Option Q) (ends : Q → Bool) : List UInt8 → Nat → Q → Option Nat
 | [], pos, q => if ends q then none else some pos
 | b :: l, pos, q => match (if b.toNat < 128 then step q b.toNat else none) with
  | none => some pos
  | some q' => runB step ends l (pos + 1) q'
theorem zcA (x : List UInt8) : lenV (.s x) = some (x.length : Int) := _root_.id rfl
theorem X8C (x : List UInt8) : (AV.s x).isStr = true := _root_.id rfl
def fltA (e : Int) : Option Nat → AV
 | none => .ag [.i .i64 0, .i .i64 0]
 | some at' => .ag [.i .i64 e, .i .i64 at']
theorem qf2 {l : List UInt8} {pos : Nat} (h : pos < l.length) (ha : ¬ (l[pos]).toNat < 128) : 128 ≤ (Utf8.decode ⟨l.toArray⟩ pos).1 := by
 have hs : pos < (⟨l.toArray⟩ : ByteArray).size := by simpa [ByteArray.size] using h
 exact (decode_high ⟨l.toArray⟩ pos hs (by show 128 ≤ (l[pos]).toNat; omega)).1
theorem qzH {q : RQ} {c : Int} (h : 128 ≤ c) : ZJo q c = none := by
 have hw : q8f q.left c = none := by unfold q8f; rw [if_neg (by unfold lowP; omega)]
 unfold ZJo
 split
 ·exact hw
 ·rw [if_neg (by omega), if_neg (by omega), if_neg (by omega), if_neg (by omega), hw]
 ·rw [if_neg (by omega), hw]
 ·rw [if_neg (by omega), hw]
theorem XDS {q q' : RQ} {c : Int} (h : ZJo q c = some q') : q'.left ≤ q.left := by
 have hw : ∀ r, q8f q.left c = some r → r.left ≤ q.left := fun r e => by
  unfold q8f at e
  split at e
  ·cases e; exact Nat.le_refl _
  ·cases e
 unfold ZJo at h
 split at h
 ·exact hw _ h
 ·split at h
  ·cases h; exact Nat.sub_le _ _
  ·split at h
   ·cases h; exact Nat.le_refl _
   ·split at h
    ·cases h; exact Nat.le_refl _
    ·split at h
     ·cases h; exact Nat.le_refl _
     ·exact hw _ h
 ·split at h
  ·cases h; exact Nat.le_refl _
  ·exact hw _ h
 ·split at h
  ·cases h; exact Nat.le_refl _
  ·exact hw _ h
theorem QtN {q q' : RQ} (h : stR q = stR q') : q = q' := by
 obtain ⟨n, k⟩ := q
 obtain ⟨n', k'⟩ := q'
 cases k <;> cases k' <;> simp [stR, fnR] at h ⊢ <;> omega
open Classical in
noncomputable def qAt (h : List AB) (j : Nat) : Option RQ := if hq : ∃ q : RQ, h[j]? = some (stR q) then some hq.choose else none
theorem qY7 {h : List AB} {j : Nat} {q : RQ} (e : h[j]? = some (stR q)) : qAt h j = some q := by
 have hx : ∃ q : RQ, h[j]? = some (stR q) := ⟨q, e⟩
 have h1 : some (stR q) = some (stR hx.choose) := e.symm.trans hx.choose_spec
 unfold qAt
 exact (dif_pos hx).trans (congrArg some (QtN (Option.some.inj h1)).symm)
theorem zh5 {β : Type} {h : List AB} {j : Nat} {f : RQ → Option β} {b : β} (e : (qAt h j).bind f = some b) : ∃ q, h[j]? = some (stR q) ∧ f q = some b := by
 unfold qAt at e
 split at e
 ·rename_i hx
  exact ⟨_, hx.choose_spec, e⟩
 ·cases e
def XV3 (q : RQ) : Bool := decide (q.k = .i)
noncomputable def qx8 : List AV → List AB → Option (AV × List AB)
 | [.s s, .p j 0, .i .i64 e], h => (qAt h j).bind fun q => if q.left ≤ 1000 ∧ s.length ≤ 1000000 then some (fltA e (runB ZJo XV3 s 0 q), h) else none
 | _, _ => none
theorem YQz (q : RQ) : (stR q).freeze = .blk false false [.f (.func (fnR q.k)) [.ag [.i .i64 q.left]] [], .b (decide (q.k = .i))] := _root_.id rfl
theorem qMh {Q : Type} {step : Q → Int → Option Q} {ends : Q → Bool} {s : List UInt8} {pos : Nat} {q : Q} (h : pos < s.length) : runB step ends (s.drop pos) pos q = match (if (s[pos]).toNat < 128 then step q (s[pos]).toNat else none) with
  | none => some pos
  | some q' => runB step ends (s.drop (pos + 1)) (pos + 1) q' := by
 rw [List.drop_eq_getElem_cons h]
 rfl
theorem q7v {Q : Type} {step : Q → Int → Option Q} (hbig : ∀ q c, 128 ≤ c → step q c = none) {s : List UInt8} {pos : Nat} (h : pos < s.length) (q : Q) :
  (if (s[pos]).toNat < 128 then step q (s[pos]).toNat else none) = step q ((Utf8.decode ⟨s.toArray⟩ pos).1 : Int) ∧ (∀ q', step q ((Utf8.decode ⟨s.toArray⟩ pos).1 : Int) = some q' → (Utf8.decode ⟨s.toArray⟩ pos).2 = 1) := by
 by_cases ha : (s[pos]).toNat < 128
 ·rw [if_pos ha, JDq h ha]
  exact ⟨rfl, fun _ _ => rfl⟩
 ·rw [if_neg ha]
  have := hbig q _ (show (128 : Int) ≤ ((Utf8.decode ⟨s.toArray⟩ pos).1 : Int) by have := qf2 h ha; omega)
  exact ⟨this.symm, fun q' e => by rw [this] at e; cases e⟩
theorem qav (k : RK) (a : List AV) (H : List AB) : (if 84 = fnR k then YLl .w a H else if 90 = fnR k then YLl .i a H else if 98 = fnR k then YLl .s a H else if 99 = fnR k then YLl .d a H else none) = YLl k a H := by
 cases k <;> rfl
theorem qUt {q : RQ} (hl : q.left ≤ 1000) (c : Int) (H : List AB) : YLl q.k [.ag [.i .i64 q.left], .i .i32 c] H = ansR H (ZJo q c) := by
 show (if (0 : Int) ≤ (q.left : Int) ∧ (q.left : Int) ≤ 1000 then ansR H (ZJo ⟨((q.left : Int)).toNat, q.k⟩ c) else none) = _
 rw [if_pos (by omega), Int.toNat_natCast]
theorem ZVj {h : List AB} (hz : h.map AB.freeze = h) {s : List UInt8} {j : Nat} {e : Int} {q0 : RQ} (hj : h[j]? = some (stR q0).freeze) (hl : q0.left ≤ 1000) (hs : s.length ≤ 1000000) :
  FnAt Try.prog 71 [.s s, .p j 0, .i .i64 e] h (fltA e (runB ZJo XV3 s 0 q0)) h := by
 refine FnAt.run (by kernel_rfl) (T := ⟨[⟨84, YLl .w, fun _ => []⟩, ⟨90, YLl .i, fun _ => []⟩, ⟨98, YLl .s, fun _ => []⟩, ⟨99, YLl .d, fun _ => []⟩], []⟩) ⟨⟨XgG, ZkI, Ym9, Kl5, trivial⟩, trivial⟩ Try.func71 sw71 fun ho hh => ?_
 unfold w71
 have hjl := (List.getElem?_eq_some_iff.1 hj).1
 have hp : ∀ L : List AB, z16 (h ++ L) j = some [.f (.func (fnR q0.k)) [.ag [.i .i64 q0.left]] [], .b (decide (q0.k = .i))] := fun L => by
  unfold z16
  rw [List.getElem?_append_left hjl, hj, YQz]
 have lj0 : ∀ L : List AB, ldV (h ++ L) none (.p j 0) = some (.f (.func (fnR q0.k)) [.ag [.i .i64 q0.left]] []) := fun L => by
  simp only [ldV, hp, Option.bind_some]
  rfl
 have lj1 : ∀ L : List AB, ldV (h ++ L) none (.p j 1) = some (.b (decide (q0.k = .i))) := fun L => by
  simp only [ldV, hp, Option.bind_some]
  rfl
 have en0 : YBq .np .np = some true := rfl
 have en1 : ∀ a b, YBq (.p a b) .np = some false := fun _ _ => rfl
 have oj : ∀ c, (AV.p j 0).ok (fun i => decide (i < h.length + c)) = true := fun c => by simp [AV.ok]; omega
 simp only [KXL, JuQ, QbA, KI8, qi4, simprocAttr, CO.tmps, Opd.tmps, optT, Nat.reducePow, Nat.reduceDiv, Nat.reduceMod, Yq6]
 refine Qxr (S := Nat × RQ) (fun σ => s.length - σ.1) (fun σ => [.s s, (if σ.1 = 0 then .p j 0 else .p (h.length + 2) 0), .i .i64 e] ++ tp 3 ++ [.p (h.length + 0) 0] ++ tp 3 ++ [.p (h.length + 1) 0] ++ tp 25) (fun σ => h ++ [.blk true true [.i .i64 0, .i .i64 0], itr s σ.1, (if σ.1 = 0 then .dead else stR σ.2)])
  (fun σ => σ.1 ≤ s.length ∧ σ.2.left ≤ 1000 ∧ (σ.1 = 0 → σ.2 = q0) ∧ runB ZJo XV3 (s.drop σ.1) σ.1 σ.2 = runB ZJo XV3 s 0 q0) (0, q0) ⟨Nat.zero_le _, hl, fun _ => rfl, rfl⟩ ?_ fun σ hσ => ?_
 ·show Bt _ _ _ _ _ (h ++ ([.blk true true [.i .i64 0, .i .i64 0], itr s 0] ++ List.replicate 1 .dead))
  rw [← List.append_assoc]
  refine Bt.trans (Bt.wk ?_) (Bt.pad _ _ 1)
  simp only [QbA, qi4, simprocAttr]
 obtain ⟨pos, q⟩ := σ
 obtain ⟨h1, h2, h3, h4⟩ := hσ
 dsimp only at h1 h2 h3 h4 ⊢
 have hn : ∀ B : AB, nxV (h ++ [.blk true true [.i .i64 0, .i .i64 0], itr s pos, B]) (.p (h.length + 1) 0) = if pos < s.length then some (.tu [.b true, .i .i64 (pos : Int), .i .i32 ((Utf8.decode ⟨s.toArray⟩ pos).1 : Int)], h ++ [.blk true true [.i .i64 0, .i .i64 0], itr s (pos + (Utf8.decode ⟨s.toArray⟩ pos).2), B]) else some (.tu [.b false], h ++ [.blk true true [.i .i64 0, .i .i64 0], itr s pos, B]) := fun B => Zk2 _ 1 s pos rfl
 by_cases g : pos < s.length
 ·have hd := qMh (step := ZJo) (ends := XV3) (q := q) g
  rw [h4] at hd
  by_cases p0 : pos = 0
  ·subst p0
   rw [h3 rfl] at hd
   simp only [if_true]
   obtain ⟨e1, e2⟩ := q7v (step := ZJo) (fun _ _ => qzH) g q0
   rw [e1] at hd
   have es := fun H => qUt (q := q0) hl ((Utf8.decode ⟨s.toArray⟩ 0).1 : Int) H
   cases hst : ZJo q0 ((Utf8.decode ⟨s.toArray⟩ 0).1 : Int) with
   | none =>
    rw [hst] at hd
    dsimp only at hd
    simp only [KXL, JuQ, QbA, KI8, qi4, simprocAttr, CO.tmps, Opd.tmps, optT, Nat.reducePow, Nat.reduceDiv, Nat.reduceMod, YaU, hn, g, lj0, qav, es, hst, ansR, en0, en1, decide_true, decide_false, ne_eq, not_false_eq_true, not_true_eq_false, false_implies, forall_const, and_true, true_and]
    rw [hd]
    exact Bt.drop _ hh rfl rfl
   | some q' =>
    have e3 := e2 q' hst
    rw [hst] at hd
    dsimp only at hd
    simp only [KXL, JuQ, QbA, KI8, qi4, simprocAttr, CO.tmps, Opd.tmps, optT, Nat.reducePow, Nat.reduceDiv, Nat.reduceMod, YaU, hn, g, lj0, qav, es, hst, ansR, e3, en0, en1, decide_true, decide_false, ne_eq, not_false_eq_true, not_true_eq_false, false_implies, forall_const, and_true, true_and]
    refine ⟨(0 + 1, q'), ⟨g, Nat.le_trans (XDS hst) hl, (fun z => absurd z (Nat.succ_ne_zero _)), hd.symm⟩, by dsimp only; omega, ?_⟩
    dsimp only
    rw [if_neg (by decide), if_neg (by decide)]
    exact Bt.sel [0, 1, 3] hh (by decide) (by simp only [KOx, FrSel, BlkSel, AV.ren, renL, AV.ok, okL, Option.some.injEq, exists_eq_left', List.length_cons, List.length_nil, Nat.reduceAdd, Nat.reduceLT, reduceCtorEq, implies_true, exists_eq', oj, itr, stR, zD3, and_self]) (by simp only [KOx, FrSel, BlkSel, AV.ren, renL, AV.ok, okL, Option.some.injEq, exists_eq_left', List.length_cons, List.length_nil, Nat.reduceAdd, Nat.reduceLT, reduceCtorEq, implies_true, exists_eq'])
  ·simp only [p0, if_false]
   obtain ⟨e1, e2⟩ := q7v (step := ZJo) (fun _ _ => qzH) g q
   rw [e1] at hd
   have es := fun H => qUt (q := q) h2 ((Utf8.decode ⟨s.toArray⟩ pos).1 : Int) H
   cases hst : ZJo q ((Utf8.decode ⟨s.toArray⟩ pos).1 : Int) with
   | none =>
    rw [hst] at hd
    dsimp only at hd
    simp only [KXL, JuQ, QbA, KI8, qi4, simprocAttr, CO.tmps, Opd.tmps, optT, Nat.reducePow, Nat.reduceDiv, Nat.reduceMod, YaU, hn, g, stR, qav, es, hst, ansR, en0, en1, decide_true, decide_false, ne_eq, not_false_eq_true, not_true_eq_false, false_implies, forall_const, and_true, true_and]
    rw [hd]
    exact Bt.drop _ hh rfl rfl
   | some q' =>
    have e3 := e2 q' hst
    rw [hst] at hd
    dsimp only at hd
    simp only [KXL, JuQ, QbA, KI8, qi4, simprocAttr, CO.tmps, Opd.tmps, optT, Nat.reducePow, Nat.reduceDiv, Nat.reduceMod, YaU, hn, g, stR, qav, es, hst, ansR, e3, en0, en1, decide_true, decide_false, ne_eq, not_false_eq_true, not_true_eq_false, false_implies, forall_const, and_true, true_and]
    refine ⟨(pos + 1, q'), ⟨g, Nat.le_trans (XDS hst) h2, (fun z => absurd z (Nat.succ_ne_zero _)), hd.symm⟩, by dsimp only; omega, ?_⟩
    dsimp only
    rw [if_neg (Nat.succ_ne_zero pos), if_neg (Nat.succ_ne_zero pos)]
    exact Bt.sel [0, 1, 3] hh (by decide) (by simp only [KOx, FrSel, BlkSel, AV.ren, renL, AV.ok, okL, Option.some.injEq, exists_eq_left', List.length_cons, List.length_nil, Nat.reduceAdd, Nat.reduceLT, reduceCtorEq, implies_true, exists_eq', oj, itr, stR, zD3, and_self]) (by simp only [KOx, FrSel, BlkSel, AV.ren, renL, AV.ok, okL, Option.some.injEq, exists_eq_left', List.length_cons, List.length_nil, Nat.reduceAdd, Nat.reduceLT, reduceCtorEq, implies_true, exists_eq'])
 ·have hpos : pos = s.length := by omega
  have hd : runB ZJo XV3 s 0 q0 = if XV3 q then none else some s.length := by
   rw [← h4, hpos, List.drop_length]
   rfl
  by_cases p0 : pos = 0
  ·have hq0 := h3 p0
   subst hq0
   subst p0
   simp only [if_true]
   have hq : runB ZJo XV3 s 0 q = if XV3 q then none else some s.length := hd
   cases he : XV3 q with
   | true =>
    have he' : decide (q.k = RK.i) = true := he
    rw [he] at hq
    simp only [KXL, JuQ, QbA, KI8, qi4, simprocAttr, CO.tmps, Opd.tmps, optT, Nat.reducePow, Nat.reduceDiv, Nat.reduceMod, YaU, hn, g, lj1, he', qvy, Bool.not_true, Bool.not_false, zcA, X8C, decide_true, decide_false, ne_eq, not_false_eq_true, not_true_eq_false, false_implies, forall_const, and_true, true_and]
    rw [hq]
    exact Bt.drop _ hh rfl rfl
   | false =>
    have he' : decide (q.k = RK.i) = false := he
    rw [he] at hq
    simp only [KXL, JuQ, QbA, KI8, qi4, simprocAttr, CO.tmps, Opd.tmps, optT, Nat.reducePow, Nat.reduceDiv, Nat.reduceMod, YaU, hn, g, lj1, he', qvy, Bool.not_true, Bool.not_false, zcA, X8C, decide_true, decide_false, ne_eq, not_false_eq_true, not_true_eq_false, false_implies, forall_const, and_true, true_and]
    rw [hq]
    exact Bt.drop _ hh rfl rfl
  ·simp only [p0, if_false]
   have hq : runB ZJo XV3 s 0 q0 = if XV3 q then none else some s.length := hd
   cases he : XV3 q with
   | true =>
    have he' : decide (q.k = RK.i) = true := he
    rw [he] at hq
    simp only [KXL, JuQ, QbA, KI8, qi4, simprocAttr, CO.tmps, Opd.tmps, optT, Nat.reducePow, Nat.reduceDiv, Nat.reduceMod, YaU, hn, g, stR, he', qvy, Bool.not_true, Bool.not_false, zcA, X8C, decide_true, decide_false, ne_eq, not_false_eq_true, not_true_eq_false, false_implies, forall_const, and_true, true_and]
    rw [hq]
    exact Bt.drop _ hh rfl rfl
   | false =>
    have he' : decide (q.k = RK.i) = false := he
    rw [he] at hq
    simp only [KXL, JuQ, QbA, KI8, qi4, simprocAttr, CO.tmps, Opd.tmps, optT, Nat.reducePow, Nat.reduceDiv, Nat.reduceMod, YaU, hn, g, stR, he', qvy, Bool.not_true, Bool.not_false, zcA, X8C, decide_true, decide_false, ne_eq, not_false_eq_true, not_true_eq_false, false_implies, forall_const, and_true, true_and]
    rw [hq]
    exact Bt.drop _ hh rfl rfl
theorem qPU : Spec Try.prog 71 qx8 := by
 intro args h v h' e
 unfold qx8 at e
 split at e
 ·rename_i s j e0
  obtain ⟨q, hq, e⟩ := zh5 e
  split at e
  ·rename_i hc
   cases e
   refine FnAt.c (FnAt.frz0 fun hz => ZVj hz ?_ hc.1 hc.2)
   rw [List.getElem?_map, hq]
   rfl
  ·cases e
 ·cases e
end Go.Proofs.Ytbcpcjofkfgjoaa
end
section
namespace Go.Proofs.Ytbcpcjofkfgjoaa
set_option maxRecDepth 100000
set_option maxHeartbeats 4000000
def Q7c : List AV → List AB → Option (AV × List AB)
 | [.s s, .i .i64 m], h => some (.tu [(if m < (s.length : Int) then .ag [.i .i64 4, .i .i64 m] else .ag [.i .i64 0, .i .i64 0]), .b (decide (m < (s.length : Int)))], h)
 | _, _ => none
theorem qbE : Spec Try.prog 70 Q7c := by
 intro args h v h' e
 unfold Q7c at e
 split at e
 ·rename_i s m
  cases e
  refine FnAt.c (FnAt.run (by kernel_rfl) (T := ⟨[], []⟩) ⟨trivial, trivial⟩ Try.func70 sw70 fun ho hh => ?_)
  unfold w70
  by_cases g : m < (s.length : Int)
  ·have g' := eq_true g
   simp only [KXL, JuQ, QbA, KI8, qi4, simprocAttr, CO.tmps, Opd.tmps, optT, Nat.reducePow, Nat.reduceDiv, Nat.reduceMod, g', zcA, X8C, decide_true, decide_false, false_implies, forall_const, and_true, true_and, not_true_eq_false, not_false_eq_true]
   exact Bt.drop _ hh rfl rfl
  ·have g' := eq_false g
   simp only [KXL, JuQ, QbA, KI8, qi4, simprocAttr, CO.tmps, Opd.tmps, optT, Nat.reducePow, Nat.reduceDiv, Nat.reduceMod, g', zcA, X8C, decide_true, decide_false, false_implies, forall_const, and_true, true_and, not_true_eq_false, not_false_eq_true]
   exact Bt.drop _ hh rfl rfl
 ·cases e
def Z8Z (s : List UInt8) : AV := if (128 : Int) < (s.length : Int) then .ag [.i .i64 4, .i .i64 128] else fltA 7 (runB ZJo XV3 s 0 ⟨7, .w⟩)
theorem quN (e : Int) (o : Option Nat) : ∃ a b, fltA e o = .ag [.i .i64 a, .i .i64 b] := by
 cases o <;> exact ⟨_, _, rfl⟩
noncomputable def zsI : List AV → List AB → Option (AV × List AB)
 | [.s s], h => if s.length ≤ 1000000 then some (Z8Z s, h) else none
 | _, _ => none
theorem Kpq {h L : List AB} {k : Nat} {q : RQ} (e : L[k]? = some (stR q)) : qAt (h ++ L) (h.length + k) = some q := qY7 (by rw [List.getElem?_append_right (by omega), Nat.add_sub_cancel_left]; exact e)
theorem KhV : Spec Try.prog 56 zsI := by
 intro args h v h' e
 unfold zsI at e
 split at e
 ·rename_i s
  split at e
  ·rename_i hs
   cases e
   refine FnAt.c (FnAt.run (by kernel_rfl) (T := ⟨[⟨70, Q7c, fun _ => []⟩, ⟨72, QlW, fun _ => []⟩, ⟨71, qx8, fun _ => []⟩], []⟩) ⟨⟨qbE, KUl, qPU, trivial⟩, trivial⟩ Try.func56 sw56 fun ho hh => ?_)
   unfold w56 Z8Z
   by_cases g : (128 : Int) < (s.length : Int)
   ·have g' := eq_true g
    simp only [KXL, JuQ, QbA, KI8, qi4, simprocAttr, CO.tmps, Opd.tmps, optT, Nat.reducePow, Nat.reduceDiv, Nat.reduceMod, Q7c, g', decide_true, decide_false, false_implies, forall_const, and_true, true_and, not_true_eq_false, not_false_eq_true, if_true]
    exact Bt.drop _ hh rfl rfl
   ·have g' := eq_false g
    have hp : ∀ H : List AB, QlW [.ag [.i .i64 7]] H = some (.p H.length 0, H ++ [stR ⟨7, .w⟩]) := fun H => rfl
    have hq : ∀ B C : AB, qAt (h ++ [B, C, stR ⟨7, .w⟩]) (h.length + 2) = some ⟨7, .w⟩ := fun B C => Kpq rfl
    have hs' := eq_true hs
    have h7 : (7 ≤ 1000) = True := eq_true (by decide)
    obtain ⟨a, b, hab⟩ := quN 7 (runB ZJo XV3 s 0 ⟨7, .w⟩)
    rw [if_neg g]
    simp only [KXL, JuQ, QbA, KI8, qi4, simprocAttr, CO.tmps, Opd.tmps, optT, Nat.reducePow, Nat.reduceDiv, Nat.reduceMod, Q7c, g', hp, qx8, hq, h7, hs', hab, decide_true, decide_false, false_implies, forall_const, and_true, true_and, not_true_eq_false, not_false_eq_true, if_false]
    exact Bt.drop _ hh rfl rfl
  ·cases e
 ·cases e
end Go.Proofs.Ytbcpcjofkfgjoaa
end
section
namespace Go.Proofs.Ytbcpcjofkfgjoaa
set_option maxRecDepth 100000
set_option maxHeartbeats 4000000
theorem Kmn {L : Int} (h1 : 0 ≤ L) (h2 : L ≤ 255) : IntKind.i32.wrap L = L := IntWalk.i32_in _ (by omega)
end Go.Proofs.Ytbcpcjofkfgjoaa
end
section
namespace Go.Proofs.Ytbcpcjofkfgjoaa
set_option maxRecDepth 100000
set_option maxHeartbeats 4000000
theorem QNf (k : IntKind) (x : Int) : (AV.i k x).int? = some x := _root_.id rfl
end Go.Proofs.Ytbcpcjofkfgjoaa
end
