/- Part 17 of what the laws' proofs rest on. No condition. -/
import Derived.Test.YtbcpcjofkfgjoaaPg16
set_option linter.all false
section
namespace Go.Proofs.Ytbcpcjofkfgjoaa
set_option maxRecDepth 100000
def w89 : CF := ⟨187, [.t 4], .seq (.reg 0 [⟨some 4, none, .mv (.c (.i .i64 0))⟩]) (.block 0 (.seq (.reg 34 [⟨some 161, none, .mv (.t 1)⟩, ⟨some 162, none, .bin .leq (.c (.i .i32 0)) (.t 161)⟩, ⟨some 163, none, .mv (.t 162)⟩, ⟨some 164, some (163, true), .mv (.t 1)⟩, ⟨some 165, some (163, true), .bin .lss (.t 164) (.c (.i .i32 128))⟩, ⟨some 166, none, .pick (.t 163) (.t 165) (.c (.b false))⟩, ⟨some 160, none, .mv (.t 166)⟩]) (.cond (.t 160) (.seq (.reg 35 [⟨some 167, none, .mv (.t 0)⟩, ⟨some 168, none, .mv (.t 1)⟩, ⟨some 169, none, .cvi .u8 (.t 168)⟩, ⟨some 170, none, .call (.c (.f (.func 94) [] [])) [.t 167, .t 169]⟩, ⟨some 4, none, .mv (.t 170)⟩]) .ret) (.seq (.reg 36 [⟨some 172, none, .mv (.t 1)⟩, ⟨some 173, none, .bin .eql (.t 172) (.c (.i .i32 65533))⟩, ⟨some 171, none, .mv (.t 173)⟩]) (.cond (.t 171) (.seq (.seq (.reg 37 [⟨some 174, none, .mv (.t 0)⟩, ⟨some 175, none, .rng (.t 174)⟩]) (.block 9 (.loop (.seq (.reg 38 [⟨some 176, none, .nxt (.t 175)⟩, ⟨some 177, none, .ext (.t 176) 0⟩]) (.seq (.cond (.t 177) .skip (.exit 9)) (.block 10 (.seq (.reg 39 [⟨some 178, none, .ext (.t 176) 1⟩, ⟨some 179, none, .ext (.t 176) 2⟩, ⟨some 5, none, .mv (.t 178)⟩, ⟨some 6, none, .mv (.t 179)⟩]) (.seq (.reg 40 [⟨some 180, none, .mv (.t 6)⟩, ⟨some 181, none, .bin .eql (.t 180) (.c (.i .i32 65533))⟩]) (.cond (.t 181) (.seq (.reg 41 [⟨some 182, none, .mv (.t 5)⟩, ⟨some 4, none, .mv (.t 182)⟩]) .ret) .skip))))))))) (.seq (.reg 42 [⟨some 4, none, .mv (.c (.i .i64 (-1)))⟩]) .ret)) (.seq (.reg 43 [⟨some 184, none, .mv (.t 1)⟩, ⟨some 185, none, .call (.c (.f (.func 95) [] [])) [.t 184]⟩, ⟨some 186, none, .un .not (.t 185)⟩, ⟨some 183, none, .mv (.t 186)⟩]) (.cond (.t 183) (.seq (.reg 44 [⟨some 4, none, .mv (.c (.i .i64 (-1)))⟩]) .ret) (.scope (.seq (.reg 1 [⟨some 17, none, .mv (.t 1)⟩, ⟨some 18, none, .stop⟩, ⟨some 7, none, .mv (.t 18)⟩]) (.seq (.reg 2 [⟨some 19, none, .mv (.t 7)⟩, ⟨some 20, none, .len true (.t 19)⟩, ⟨some 21, none, .bin .sub (.t 20) (.c (.i .i64 1))⟩, ⟨some 8, none, .mv (.t 21)⟩]) (.seq (.reg 3 [⟨some 22, none, .mv (.t 8)⟩, ⟨some 9, none, .mv (.t 22)⟩]) (.seq (.reg 4 [⟨some 10, none, .mv (.c (.i .i64 0))⟩]) (.seq (.block 1 (.loop (.seq (.seq (.reg 5 [⟨some 23, none, .mv (.t 9)⟩, ⟨some 24, none, .mv (.t 0)⟩, ⟨some 25, none, .len true (.t 24)⟩, ⟨some 26, none, .bin .lss (.t 23) (.t 25)⟩]) (.cond (.t 26) .skip (.exit 1))) (.block 2 (.scope (.seq (.seq (.drw 6 [⟨⟨some 27, none, .mv (.t 0)⟩, 0, 1⟩, ⟨⟨some 28, none, .mv (.t 9)⟩, 0, 512⟩, ⟨⟨some 29, none, .ixs (.t 27) (.t 28)⟩, 3, 402653184⟩, ⟨⟨some 30, none, .mv (.t 7)⟩, 0, 128⟩, ⟨⟨some 31, none, .mv (.t 8)⟩, 0, 256⟩, ⟨⟨some 32, none, .ixs (.t 30) (.t 31)⟩, 24, 3221225472⟩, ⟨⟨some 33, none, .bin .neq (.t 29) (.t 32)⟩, 63, 4831838208⟩]) (.cond (.t 33) (.seq (.drw 7 [⟨⟨some 34, none, .mv (.t 0)⟩, 0, 1⟩, ⟨⟨some 35, none, .mv (.t 9)⟩, 0, 512⟩, ⟨⟨some 36, none, .bin .add (.t 35) (.c (.i .i64 1))⟩, 2, 34359738368⟩, ⟨⟨some 37, none, .sls (.t 34) (some (.t 36)) none⟩, 7, 85899345920⟩, ⟨⟨some 38, none, .mv (.t 7)⟩, 0, 128⟩, ⟨⟨some 39, none, .mv (.t 8)⟩, 0, 256⟩, ⟨⟨some 40, none, .ixs (.t 38) (.t 39)⟩, 48, 824633720832⟩, ⟨⟨some 41, none, .call (.c (.f (.func 94) [] [])) [.t 37, .t 40]⟩, 127, 1236950581248⟩, ⟨⟨some 11, none, .mv (.t 41)⟩, 255, 2199023255552⟩]) (.seq (.seq (.reg 8 [⟨some 42, none, .mv (.t 11)⟩, ⟨some 43, none, .bin .lss (.t 42) (.c (.i .i64 0))⟩]) (.cond (.t 43) (.seq (.reg 9 [⟨some 4, none, .mv (.c (.i .i64 (-1)))⟩]) .ret) .skip)) (.reg 10 [⟨some 44, none, .mv (.t 9)⟩, ⟨some 45, none, .mv (.t 11)⟩, ⟨some 46, none, .bin .add (.t 45) (.c (.i .i64 1))⟩, ⟨some 47, none, .bin .add (.t 44) (.t 46)⟩, ⟨some 9, none, .mv (.t 47)⟩]))) .skip)) (.seq (.seq (.reg 11 [⟨some 12, none, .mv (.c (.i .i64 1))⟩]) (.block 3 (.loop (.seq (.seq (.reg 12 [⟨some 48, none, .mv (.t 12)⟩, ⟨some 49, none, .mv (.t 7)⟩, ⟨some 50, none, .len true (.t 49)⟩, ⟨some 51, none, .bin .lss (.t 48) (.t 50)⟩]) (.cond (.t 51) .skip (.exit 3))) (.seq (.block 4 (.seq (.drw 14 [⟨⟨some 54, none, .mv (.t 0)⟩, 0, 1⟩, ⟨⟨some 55, none, .mv (.t 9)⟩, 0, 512⟩, ⟨⟨some 56, none, .mv (.t 12)⟩, 0, 4096⟩, ⟨⟨some 57, none, .bin .sub (.t 55) (.t 56)⟩, 6, 108086391056891904⟩, ⟨⟨some 58, none, .ixs (.t 54) (.t 57)⟩, 15, 162129586585337856⟩, ⟨⟨some 59, none, .mv (.t 7)⟩, 0, 128⟩, ⟨⟨some 60, none, .mv (.t 8)⟩, 0, 256⟩, ⟨⟨some 61, none, .mv (.t 12)⟩, 0, 4096⟩, ⟨⟨some 62, none, .bin .sub (.t 60) (.t 61)⟩, 192, 3458764513820540928⟩, ⟨⟨some 63, none, .ixs (.t 59) (.t 62)⟩, 480, 5188146770730811392⟩, ⟨⟨some 64, none, .bin .neq (.t 58) (.t 63)⟩, 1023, 9511602413006487552⟩]) (.cond (.t 64) .stop .skip))) (.reg 13 [⟨some 52, none, .mv (.t 12)⟩, ⟨some 53, none, .bin .add (.t 52) (.c (.i .i64 1))⟩, ⟨some 12, none, .mv (.t 53)⟩])))))) (.seq (.seq (.reg 15 [⟨some 65, none, .mv (.t 9)⟩, ⟨some 66, none, .mv (.t 8)⟩, ⟨some 67, none, .bin .sub (.t 65) (.t 66)⟩, ⟨some 4, none, .mv (.t 67)⟩]) .ret) (.seq .skip (.seq (.reg 16 [⟨some 68, none, .mv (.t 10)⟩, ⟨some 69, none, .bin .add (.t 68) (.c (.i .i64 1))⟩, ⟨some 10, none, .mv (.t 69)⟩]) (.seq (.reg 17 [⟨some 70, none, .mv (.t 9)⟩, ⟨some 71, none, .bin .add (.t 70) (.c (.i .i64 1))⟩, ⟨some 9, none, .mv (.t 71)⟩]) (.seq (.reg 18 [⟨some 72, none, .mv (.c (.b true))⟩, ⟨some 73, some (72, true), .mv (.t 10)⟩, ⟨some 74, some (72, true), .mv (.t 9)⟩, ⟨some 75, some (72, true), .call (.c (.f (.func 96) [] [])) [.t 74]⟩, ⟨some 76, some (72, true), .bin .gtr (.t 73) (.t 75)⟩, ⟨some 77, none, .pick (.t 72) (.t 76) (.c (.b false))⟩, ⟨some 78, none, .mv (.t 77)⟩, ⟨some 79, some (78, true), .mv (.t 9)⟩, ⟨some 80, some (78, true), .mv (.t 0)⟩, ⟨some 81, some (78, true), .len true (.t 80)⟩, ⟨some 82, some (78, true), .bin .lss (.t 79) (.t 81)⟩, ⟨some 83, none, .pick (.t 78) (.t 82) (.c (.b false))⟩, ⟨some 84, none, .mv (.t 83)⟩, ⟨some 85, some (84, false), .mv (.c (.b false))⟩, ⟨some 86, some (85, true), .mv (.t 10)⟩, ⟨some 87, some (85, true), .mv (.t 9)⟩, ⟨some 88, some (85, true), .bin .shr (.t 87) (.c (.i .u64 4))⟩, ⟨some 89, some (85, true), .bin .add (.c (.i .i64 4)) (.t 88)⟩, ⟨some 90, some (85, true), .bin .geq (.t 86) (.t 89)⟩, ⟨some 91, some (84, false), .pick (.t 85) (.t 90) (.c (.b false))⟩, ⟨some 92, some (84, false), .mv (.t 91)⟩, ⟨some 93, some (92, true), .mv (.t 9)⟩, ⟨some 94, some (92, true), .mv (.t 0)⟩, ⟨some 95, some (92, true), .len true (.t 94)⟩, ⟨some 96, some (92, true), .bin .lss (.t 93) (.t 95)⟩, ⟨some 97, some (84, false), .pick (.t 92) (.t 96) (.c (.b false))⟩, ⟨some 98, none, .pick (.t 84) (.c (.b true)) (.t 97)⟩]) (.cond (.t 98) .stop .skip))))))))))))) (.seq (.seq (.reg 19 [⟨some 4, none, .mv (.c (.i .i64 (-1)))⟩]) .ret) (.seq .skip (.seq (.cond (.c (.b true)) (.seq (.reg 20 [⟨some 99, none, .mv (.t 0)⟩, ⟨some 100, none, .mv (.t 9)⟩, ⟨some 101, none, .mv (.t 8)⟩, ⟨some 102, none, .bin .sub (.t 100) (.t 101)⟩, ⟨some 103, none, .sls (.t 99) (some (.t 102)) none⟩, ⟨some 104, none, .mv (.t 1)⟩, ⟨some 105, none, .stop⟩, ⟨some 106, none, .call (.c (.f (.func 97) [] [])) [.t 103, .t 105]⟩, ⟨some 13, none, .mv (.t 106)⟩]) (.seq (.reg 21 [⟨some 107, none, .mv (.t 13)⟩, ⟨some 108, none, .bin .geq (.t 107) (.c (.i .i64 0))⟩]) (.cond (.t 108) (.seq (.reg 22 [⟨some 109, none, .mv (.t 9)⟩, ⟨some 110, none, .mv (.t 13)⟩, ⟨some 111, none, .bin .add (.t 109) (.t 110)⟩, ⟨some 112, none, .mv (.t 8)⟩, ⟨some 113, none, .bin .sub (.t 111) (.t 112)⟩, ⟨some 4, none, .mv (.t 113)⟩]) .ret) .skip))) (.scope (.seq (.reg 23 [⟨some 114, none, .mv (.t 7)⟩, ⟨some 115, none, .mv (.t 8)⟩, ⟨some 116, none, .ixs (.t 114) (.t 115)⟩, ⟨some 14, none, .mv (.t 116)⟩]) (.seq (.reg 24 [⟨some 117, none, .mv (.t 7)⟩, ⟨some 118, none, .mv (.t 8)⟩, ⟨some 119, none, .bin .sub (.t 118) (.c (.i .i64 1))⟩, ⟨some 120, none, .ixs (.t 117) (.t 119)⟩, ⟨some 15, none, .mv (.t 120)⟩]) (.seq .skip (.block 5 (.loop (.seq (.seq (.reg 25 [⟨some 121, none, .mv (.t 9)⟩, ⟨some 122, none, .mv (.t 0)⟩, ⟨some 123, none, .len true (.t 122)⟩, ⟨some 124, none, .bin .lss (.t 121) (.t 123)⟩]) (.cond (.t 124) .skip (.exit 5))) (.seq (.block 6 (.seq (.reg 27 [⟨some 127, none, .mv (.t 0)⟩, ⟨some 128, none, .mv (.t 9)⟩, ⟨some 129, none, .ixs (.t 127) (.t 128)⟩, ⟨some 130, none, .mv (.t 14)⟩, ⟨some 131, none, .bin .eql (.t 129) (.t 130)⟩, ⟨some 132, none, .mv (.t 131)⟩, ⟨some 133, some (132, true), .mv (.t 0)⟩, ⟨some 134, some (132, true), .mv (.t 9)⟩, ⟨some 135, some (132, true), .bin .sub (.t 134) (.c (.i .i64 1))⟩, ⟨some 136, some (132, true), .ixs (.t 133) (.t 135)⟩, ⟨some 137, some (132, true), .mv (.t 15)⟩, ⟨some 138, some (132, true), .bin .eql (.t 136) (.t 137)⟩, ⟨some 139, none, .pick (.t 132) (.t 138) (.c (.b false))⟩]) (.cond (.t 139) (.seq (.seq (.reg 28 [⟨some 16, none, .mv (.c (.i .i64 2))⟩]) (.block 7 (.loop (.seq (.seq (.reg 29 [⟨some 140, none, .mv (.t 16)⟩, ⟨some 141, none, .mv (.t 7)⟩, ⟨some 142, none, .len true (.t 141)⟩, ⟨some 143, none, .bin .lss (.t 140) (.t 142)⟩]) (.cond (.t 143) .skip (.exit 7))) (.seq (.block 8 (.seq (.drw 31 [⟨⟨some 146, none, .mv (.t 0)⟩, 0, 1⟩, ⟨⟨some 147, none, .mv (.t 9)⟩, 0, 512⟩, ⟨⟨some 148, none, .mv (.t 16)⟩, 0, 65536⟩, ⟨⟨some 149, none, .bin .sub (.t 147) (.t 148)⟩, 6, 535217884764734955396857238543560676143529984⟩, ⟨⟨some 150, none, .ixs (.t 146) (.t 149)⟩, 15, 802826827147102433095285857815341014215294976⟩, ⟨⟨some 151, none, .mv (.t 7)⟩, 0, 128⟩, ⟨⟨some 152, none, .mv (.t 8)⟩, 0, 256⟩, ⟨⟨some 153, none, .mv (.t 16)⟩, 0, 65536⟩, ⟨⟨some 154, none, .bin .sub (.t 152) (.t 153)⟩, 192, 17126972312471518572699431633393941636592959488⟩, ⟨⟨some 155, none, .ixs (.t 151) (.t 154)⟩, 480, 25690458468707277859049147450090912454889439232⟩, ⟨⟨some 156, none, .bin .neq (.t 150) (.t 155)⟩, 1023, 47099173859296676074923436991833339500630638592⟩]) (.cond (.t 156) (.exit 6) .skip))) (.reg 30 [⟨some 144, none, .mv (.t 16)⟩, ⟨some 145, none, .bin .add (.t 144) (.c (.i .i64 1))⟩, ⟨some 16, none, .mv (.t 145)⟩])))))) (.seq (.reg 32 [⟨some 157, none, .mv (.t 9)⟩, ⟨some 158, none, .mv (.t 8)⟩, ⟨some 159, none, .bin .sub (.t 157) (.t 158)⟩, ⟨some 4, none, .mv (.t 159)⟩]) .ret)) .skip))) (.reg 26 [⟨some 125, none, .mv (.t 9)⟩, ⟨some 126, none, .bin .add (.t 125) (.c (.i .i64 1))⟩, ⟨some 9, none, .mv (.t 126)⟩])))))))))) (.seq (.reg 33 [⟨some 4, none, .mv (.c (.i .i64 (-1)))⟩]) .ret)))))))))))))))))⟩
theorem sw89 : z47 Try.prog Try.f89 = some w89 := by kernel_rfl
def w90 : CF := ⟨42, [.t 4], .seq (.reg 0 [⟨some 2, none, .box true 1 (.t 0)⟩, ⟨some 4, none, .mv (.c .np)⟩]) (.seq (.block 0 (.seq (.reg 1 [⟨some 6, none, .mv (.t 1)⟩, ⟨some 7, none, .bin .eql (.t 6) (.c (.i .i32 47))⟩, ⟨some 8, none, .mv (.t 7)⟩, ⟨some 9, some (8, true), .fad 0 (.t 2)⟩, ⟨some 10, some (8, true), .ld none (.t 9)⟩, ⟨some 11, some (8, true), .bin .gtr (.t 10) (.c (.i .i64 0))⟩, ⟨some 12, none, .pick (.t 8) (.t 11) (.c (.b false))⟩, ⟨some 5, none, .mv (.t 12)⟩]) (.cond (.t 5) (.seq (.reg 2 [⟨some 13, none, .fad 0 (.t 2)⟩, ⟨some 14, none, .ld none (.t 13)⟩, ⟨some 15, none, .bin .sub (.t 14) (.c (.i .i64 1))⟩, ⟨some 16, none, .bld [.i .i64 0] [(0, 1, .t 15)]⟩, ⟨some 17, none, .call (.c (.f (.func 72) [] [])) [.t 16]⟩, ⟨some 4, none, .mv (.t 17)⟩]) .ret) (.seq (.reg 3 [⟨some 19, none, .mv (.t 1)⟩, ⟨some 20, none, .bin .eql (.t 19) (.c (.i .i32 46))⟩, ⟨some 18, none, .mv (.t 20)⟩]) (.cond (.t 18) (.seq (.reg 4 [⟨some 21, none, .ld (some 1) (.t 2)⟩, ⟨some 22, none, .mkf (.func 84) [.t 21] []⟩, ⟨some 23, none, .bld [.nf, .b false] [(0, 1, .t 22)]⟩, ⟨some 24, none, .box false 2 (.t 23)⟩, ⟨some 4, none, .mv (.t 24)⟩]) .ret) (.seq (.reg 5 [⟨some 26, none, .mv (.t 1)⟩, ⟨some 27, none, .bin .eql (.t 26) (.c (.i .i32 95))⟩, ⟨some 25, none, .mv (.t 27)⟩]) (.cond (.t 25) (.seq (.reg 6 [⟨some 28, none, .ld (some 1) (.t 2)⟩, ⟨some 29, none, .mkf (.func 98) [.t 28] []⟩, ⟨some 30, none, .bld [.nf, .b false] [(0, 1, .t 29)]⟩, ⟨some 31, none, .box false 2 (.t 30)⟩, ⟨some 4, none, .mv (.t 31)⟩]) .ret) (.seq (.reg 7 [⟨some 33, none, .mv (.t 1)⟩, ⟨some 34, none, .bin .eql (.t 33) (.c (.i .i32 45))⟩, ⟨some 32, none, .mv (.t 34)⟩]) (.cond (.t 32) (.seq (.reg 8 [⟨some 35, none, .ld (some 1) (.t 2)⟩, ⟨some 36, none, .mkf (.func 99) [.t 35] []⟩, ⟨some 37, none, .bld [.nf, .b false] [(0, 1, .t 36)]⟩, ⟨some 38, none, .box false 2 (.t 37)⟩, ⟨some 4, none, .mv (.t 38)⟩]) .ret) .skip))))))))) (.seq (.reg 9 [⟨some 39, none, .ld (some 1) (.t 2)⟩, ⟨some 40, none, .mv (.t 1)⟩, ⟨some 41, none, .call (.c (.f (.func 84) [] [])) [.t 39, .t 40]⟩, ⟨some 4, none, .mv (.t 41)⟩]) .ret))⟩
theorem sw90 : z47 Try.prog Try.f90 = some w90 := by kernel_rfl
def w91 : CF := ⟨14, [.t 4], .seq (.reg 0 [⟨some 4, none, .mv (.c .np)⟩]) (.seq (.seq (.reg 1 [⟨some 5, none, .mv (.t 0)⟩, ⟨some 6, none, .ld none (.t 1)⟩, ⟨some 7, none, .ixs (.t 6) (.c (.i .i64 0))⟩, ⟨some 8, none, .cvi .i32 (.t 7)⟩, ⟨some 9, none, .bin .eql (.t 5) (.t 8)⟩]) (.cond (.t 9) (.seq (.drw 2 [⟨⟨some 10, none, .ld none (.t 1)⟩, 0, 2⟩, ⟨⟨some 11, none, .sls (.t 10) (some (.c (.i .i64 1))) none⟩, 1, 1024⟩, ⟨⟨some 12, none, .ld none (.t 2)⟩, 0, 4⟩, ⟨⟨some 13, none, .call (.c (.f (.func 87) [] [])) [.t 11, .t 12]⟩, 7, 6144⟩, ⟨⟨some 4, none, .mv (.t 13)⟩, 15, 8192⟩]) .ret) .skip)) (.seq (.reg 3 [⟨some 4, none, .mv (.c .np)⟩]) .ret))⟩
theorem sw91 : z47 Try.prog Try.f91 = some w91 := by kernel_rfl
def w92 : CF := ⟨13, [.t 3], .seq (.reg 0 [⟨some 3, none, .mv (.c .np)⟩]) (.seq (.seq (.reg 1 [⟨some 4, none, .ld none (.t 1)⟩, ⟨some 5, none, .bin .gtr (.t 4) (.c (.i .i64 0))⟩, ⟨some 6, none, .mv (.t 5)⟩, ⟨some 7, some (6, true), .mv (.t 0)⟩, ⟨some 8, some (6, true), .call (.c (.f (.func 93) [] [])) [.t 7]⟩, ⟨some 9, none, .pick (.t 6) (.t 8) (.c (.b false))⟩]) (.cond (.t 9) (.seq (.reg 2 [⟨some 10, none, .ld none (.t 1)⟩, ⟨some 11, none, .bin .sub (.t 10) (.c (.i .i64 1))⟩, ⟨some 12, none, .call (.c (.f (.func 88) [] [])) [.t 11]⟩, ⟨some 3, none, .mv (.t 12)⟩]) .ret) .skip)) (.seq (.reg 3 [⟨some 3, none, .mv (.c .np)⟩]) .ret))⟩
theorem sw92 : z47 Try.prog Try.f92 = some w92 := by kernel_rfl
def w93 : CF := ⟨17, [.t 2], .seq (.reg 0 [⟨some 2, none, .mv (.c (.b false))⟩]) (.seq (.reg 1 [⟨some 3, none, .mv (.t 0)⟩, ⟨some 4, none, .bin .geq (.t 3) (.c (.i .i32 48))⟩, ⟨some 5, none, .mv (.t 4)⟩, ⟨some 6, some (5, true), .mv (.t 0)⟩, ⟨some 7, some (5, true), .bin .leq (.t 6) (.c (.i .i32 57))⟩, ⟨some 8, none, .pick (.t 5) (.t 7) (.c (.b false))⟩, ⟨some 9, none, .mv (.t 8)⟩, ⟨some 10, some (9, false), .mv (.t 0)⟩, ⟨some 11, some (9, false), .bin .geq (.t 10) (.c (.i .i32 97))⟩, ⟨some 12, some (9, false), .mv (.t 11)⟩, ⟨some 13, some (12, true), .mv (.t 0)⟩, ⟨some 14, some (12, true), .bin .leq (.t 13) (.c (.i .i32 102))⟩, ⟨some 15, some (9, false), .pick (.t 12) (.t 14) (.c (.b false))⟩, ⟨some 16, none, .pick (.t 9) (.c (.b true)) (.t 15)⟩, ⟨some 2, none, .mv (.t 16)⟩]) .ret)⟩
theorem sw93 : z47 Try.prog Try.f93 = some w93 := by kernel_rfl
def w94 : CF := ⟨8, [.t 4], .seq (.reg 0 [⟨some 4, none, .mv (.c (.i .i64 0))⟩]) (.seq (.reg 1 [⟨some 5, none, .mv (.t 0)⟩, ⟨some 6, none, .mv (.t 1)⟩, ⟨some 7, none, .call (.c (.f (.func 100) [] [])) [.t 5, .t 6]⟩, ⟨some 4, none, .mv (.t 7)⟩]) .ret)⟩
theorem sw94 : z47 Try.prog Try.f94 = some w94 := by kernel_rfl
def w95 : CF := ⟨17, [.t 2], .seq (.reg 0 [⟨some 2, none, .mv (.c (.b false))⟩]) (.seq (.block 0 (.seq (.reg 1 [⟨some 4, none, .mv (.t 0)⟩, ⟨some 5, none, .bin .leq (.c (.i .i32 0)) (.t 4)⟩, ⟨some 6, none, .mv (.t 5)⟩, ⟨some 7, some (6, true), .mv (.t 0)⟩, ⟨some 8, some (6, true), .bin .lss (.t 7) (.c (.i .i32 55296))⟩, ⟨some 9, none, .pick (.t 6) (.t 8) (.c (.b false))⟩, ⟨some 3, none, .mv (.t 9)⟩]) (.cond (.t 3) (.seq (.reg 2 [⟨some 2, none, .mv (.c (.b true))⟩]) .ret) (.seq (.reg 3 [⟨some 11, none, .mv (.t 0)⟩, ⟨some 12, none, .bin .lss (.c (.i .i32 57343)) (.t 11)⟩, ⟨some 13, none, .mv (.t 12)⟩, ⟨some 14, some (13, true), .mv (.t 0)⟩, ⟨some 15, some (13, true), .bin .leq (.t 14) (.c (.i .i32 1114111))⟩, ⟨some 16, none, .pick (.t 13) (.t 15) (.c (.b false))⟩, ⟨some 10, none, .mv (.t 16)⟩]) (.cond (.t 10) (.seq (.reg 4 [⟨some 2, none, .mv (.c (.b true))⟩]) .ret) .skip))))) (.seq (.reg 5 [⟨some 2, none, .mv (.c (.b false))⟩]) .ret))⟩
theorem sw95 : z47 Try.prog Try.f95 = some w95 := by kernel_rfl
def w96 : CF := ⟨6, [.t 2], .seq (.reg 0 [⟨some 2, none, .mv (.c (.i .i64 0))⟩]) (.seq (.reg 1 [⟨some 3, none, .mv (.t 0)⟩, ⟨some 4, none, .bin .add (.t 3) (.c (.i .i64 16))⟩, ⟨some 5, none, .bin .quo (.t 4) (.c (.i .i64 8))⟩, ⟨some 2, none, .mv (.t 5)⟩]) .ret)⟩
theorem sw96 : z47 Try.prog Try.f96 = some w96 := by kernel_rfl
def w98 : CF := ⟨14, [.t 4], .seq (.reg 0 [⟨some 2, none, .box true 1 (.t 0)⟩, ⟨some 4, none, .mv (.c .np)⟩]) (.seq (.seq (.reg 1 [⟨some 5, none, .mv (.t 1)⟩, ⟨some 6, none, .bin .eql (.t 5) (.c (.i .i32 95))⟩]) (.cond (.t 6) (.seq (.reg 2 [⟨some 7, none, .ld (some 1) (.t 2)⟩, ⟨some 8, none, .mkf (.func 84) [.t 7] []⟩, ⟨some 9, none, .bld [.nf, .b false] [(0, 1, .t 8)]⟩, ⟨some 10, none, .box false 2 (.t 9)⟩, ⟨some 4, none, .mv (.t 10)⟩]) .ret) .skip)) (.seq (.reg 3 [⟨some 11, none, .ld (some 1) (.t 2)⟩, ⟨some 12, none, .mv (.t 1)⟩, ⟨some 13, none, .call (.c (.f (.func 84) [] [])) [.t 11, .t 12]⟩, ⟨some 4, none, .mv (.t 13)⟩]) .ret))⟩
theorem sw98 : z47 Try.prog Try.f98 = some w98 := by kernel_rfl
def w99 : CF := ⟨14, [.t 4], .seq (.reg 0 [⟨some 2, none, .box true 1 (.t 0)⟩, ⟨some 4, none, .mv (.c .np)⟩]) (.seq (.seq (.reg 1 [⟨some 5, none, .mv (.t 1)⟩, ⟨some 6, none, .bin .eql (.t 5) (.c (.i .i32 45))⟩]) (.cond (.t 6) (.seq (.reg 2 [⟨some 7, none, .ld (some 1) (.t 2)⟩, ⟨some 8, none, .mkf (.func 99) [.t 7] []⟩, ⟨some 9, none, .bld [.nf, .b false] [(0, 1, .t 8)]⟩, ⟨some 10, none, .box false 2 (.t 9)⟩, ⟨some 4, none, .mv (.t 10)⟩]) .ret) .skip)) (.seq (.reg 3 [⟨some 11, none, .ld (some 1) (.t 2)⟩, ⟨some 12, none, .mv (.t 1)⟩, ⟨some 13, none, .call (.c (.f (.func 84) [] [])) [.t 11, .t 12]⟩, ⟨some 4, none, .mv (.t 13)⟩]) .ret))⟩
theorem sw99 : z47 Try.prog Try.f99 = some w99 := by kernel_rfl
def w100 : CF := ⟨8, [.t 4], .seq (.reg 0 [⟨some 4, none, .mv (.c (.i .i64 0))⟩]) (.seq (.reg 1 [⟨some 5, none, .mv (.t 0)⟩, ⟨some 6, none, .mv (.t 1)⟩, ⟨some 7, none, .bix (.t 5) (.t 6)⟩, ⟨some 4, none, .mv (.t 7)⟩]) .ret)⟩
theorem QiW : z47 Try.prog Try.f100 = some w100 := by kernel_rfl
end Go.Proofs.Ytbcpcjofkfgjoaa
end
section
namespace Go.Proofs.Ytbcpcjofkfgjoaa
theorem ZxP {α : Type} {xs ys : List α} {i : Nat} (d : α) (hx : i < xs.length) (hy : i < ys.length) (e : xs.take i = ys.take i) : (xs.take (i + 1) = ys.take (i + 1)) ↔ xs.getD i d = ys.getD i d := by
 rw [List.take_succ_eq_append_getElem hx, List.take_succ_eq_append_getElem hy, e, List.append_right_inj, List.getD_eq_getElem?_getD, List.getD_eq_getElem?_getD, List.getElem?_eq_getElem hx, List.getElem?_eq_getElem hy]
 simp
theorem XwO {α : Type} {xs ys : List α} {i : Nat} (hi : xs.length ≤ i) : (xs.length = ys.length ∧ xs.take i = ys.take i) ↔ xs = ys := by
 constructor
 ·rintro ⟨h1, h2⟩
  rwa [List.take_of_length_le hi, List.take_of_length_le (by omega)] at h2
 ·rintro rfl
  exact ⟨rfl, rfl⟩
theorem Qvx {α : Type} {xs ys : List α} {i : Nat} (h : ¬ (xs.length = ys.length ∧ xs.take i = ys.take i)) : ¬ xs = ys := by
 rintro rfl
 exact h ⟨rfl, rfl⟩
end Go.Proofs.Ytbcpcjofkfgjoaa
end
section
namespace Go.Proofs.Ytbcpcjofkfgjoaa
open Go.RowKit
section
variable {P : Program} {α : Type} {r : Row α}
theorem Bt.less {p : Nat} {fr : List AV} {h : List AB} {i : Nat} {B B' : AB} (hi : h[i]? = some B) (hbr : ∀ ρ w b o n, BR (KC P) ρ w b o n B → BR (KC P) ρ w b o n B') (hm : B'.mut = true → B.mut = true) (hl : B'.live = true → B.live = true) : Bt P p fr h fr (h.set i B') := by
 intro ρ w cs hp rr v
 have hlt := (List.getElem?_eq_some_iff.1 hi).1
 have cls : ∀ (j : Nat) C, (h.set i B')[j]? = some C → ∃ C0, h[j]? = some C0 ∧ (C.mut = true → C0.mut = true) ∧ (C.live = true → C0.live = true) ∧ ∀ ρ w b o n, BR (KC P) ρ w b o n C0 → BR (KC P) ρ w b o n C := fun j C hC => by
  rw [List.getElem?_set] at hC
  split at hC
  ·rename_i hij
   subst hij
   cases hC
   exact ⟨B, hi, hm, hl, hbr⟩
  ·exact ⟨C, hC, fun z => z, fun z => z, fun _ _ _ _ _ z => z⟩
 refine ⟨by rw [List.length_set]; exact hp, ρ, v, ⟨by rw [List.length_set]; exact rr.len, fun j C b o n h1 h2 => ?_, fun j k bj oj bk ok Bj Bk hne h1 h2 h3 h4 g1 g2 => ?_⟩, fun b ⟨j, C, o, h1, h2, h3⟩ => ?_, fun j b ⟨C, o, h1, h2, h3⟩ => ?_, fun _ _ => rfl⟩
 ·obtain ⟨C0, q1, _, _, q4⟩ := cls j C h1
  exact q4 _ _ _ _ _ (rr.blk j C0 b o n q1 h2)
 ·obtain ⟨C0, q1, q2, _, _⟩ := cls j Bj h1
  obtain ⟨C1, z1, _, z3, _⟩ := cls k Bk h2
  exact rr.sep j k bj oj bk ok C0 C1 hne q1 z1 h3 h4 (q2 g1) (z3 g2)
 ·obtain ⟨C0, q1, q2, _, _⟩ := cls j C h1
  exact ⟨j, C0, o, q1, q2 h2, h3⟩
 ·obtain ⟨C0, q1, _, q3, _⟩ := cls j C h1
  exact ⟨j, ⟨C0, o, q1, q3 h2, h3⟩, fun _ => rfl, fun z => z⟩
end
end Go.Proofs.Ytbcpcjofkfgjoaa
end
section
namespace Go.Proofs.Ytbcpcjofkfgjoaa
set_option maxRecDepth 100000
set_option maxHeartbeats 4000000
def AV.isNs : AV → Bool
 | .ns => true
 | _ => false
end Go.Proofs.Ytbcpcjofkfgjoaa
end
section
namespace Go.Proofs.Ytbcpcjofkfgjoaa
set_option maxRecDepth 100000
set_option maxHeartbeats 4000000
section
variable {P : Program} {h : List AB} {id n : Nat}
def topB (n : Nat) : AB := .blk true true (List.replicate n .top)
theorem Bt.top {p : Nat} {fr : List AV} {xs : List AV} (hi : h[id]? = some (.blk true true xs)) (hn : xs.length = n) : Bt P p fr h fr (h.set id (topB n)) := by
 refine Bt.less hi (fun ρ w b o m hb => ?_) (fun _ => rfl) (fun _ => rfl)
 obtain ⟨cs, e, fz, h1, h2, h3, _⟩ := hb
 refine ⟨cs, e, fz, h1, h2, by rw [List.length_replicate]; omega, fun k a c ha _ => ?_⟩
 rw [List.getElem?_replicate] at ha
 split at ha
 ·cases ha
  exact .top c
 ·cases ha
theorem XDq (hid : id < h.length) (x : List AB) (o : Nat) (w : AV) (hw : w.one = true) (hf : wrOk true w = true) (ho : o < n) : stV (h.set id (topB n) ++ x) none (.p id o) w = some (h.set id (.blk true true (over (List.replicate n .top) o [w])) ++ x) := by
 have hb : (h.set id (.blk true true (List.replicate n .top)) ++ x)[id]? = some (.blk true true (List.replicate n .top)) := by
  rw [List.getElem?_append_left (by rw [List.length_set]; exact hid), List.getElem?_set_self hid]
 simp only [stV, hw, if_true, stB, topB, hb]
 rw [if_pos ⟨by simp; omega, by simp [hf]⟩]
 congr 1
 rw [List.set_append_left _ _ (by rw [List.length_set]; exact hid), List.set_set]
theorem Y5m (hid : id < h.length) (x : List AB) (o m : Nat) (l : List AV) (hl : l.length = m) (hf : l.all (wrOk true) = true) (ho : o + m ≤ n) : stV (h.set id (topB n) ++ x) (some m) (.p id o) (.ag l) = some (h.set id (.blk true true (over (List.replicate n .top) o l)) ++ x) := by
 have hb : (h.set id (.blk true true (List.replicate n .top)) ++ x)[id]? = some (.blk true true (List.replicate n .top)) := by
  rw [List.getElem?_append_left (by rw [List.length_set]; exact hid), List.getElem?_set_self hid]
 simp only [stV, hl, if_true, stB, topB, hb]
 rw [if_pos ⟨by simp; omega, hf⟩]
 congr 1
 rw [List.set_append_left _ _ (by rw [List.length_set]; exact hid), List.set_set]
theorem XB9 {p : Nat} {fr fr' : List AV} (hid : id < h.length) (o : Nat) (l : List AV) (ho : o + l.length ≤ n) (hw : WkL fr' fr) : Bt P p fr (h.set id (.blk true true (over (List.replicate n .top) o l)) ++ []) fr' (h.set id (topB n) ++ []) := by
 rw [List.append_nil, List.append_nil]
 refine Bt.trans (Bt.wk hw) ?_
 have := Bt.top (P := P) (p := p) (fr := fr') (h := h.set id (.blk true true (over (List.replicate n .top) o l))) (id := id) (n := n) (xs := over (List.replicate n .top) o l) (by rw [List.getElem?_set_self hid]) (by rw [ZnM _ _ _ (by simp; omega)]; simp)
 rwa [List.set_set] at this
theorem ZIl {p : Nat} {fr fr' : List AV} {xs : List AV} (hi : h[id]? = some (.blk true true xs)) (hn : xs.length = n) (hw : WkL fr' fr) : Bt P p fr (h ++ []) fr' (h.set id (topB n) ++ []) := by
 rw [List.append_nil, List.append_nil]
 exact Bt.trans (Bt.wk hw) (Bt.top hi hn)
theorem qKE {p : Nat} {fr : List AV} (hid : id < h.length) : Bt P p fr (h.set id (topB n) ++ []) fr (h.set id .dead) := by
 rw [List.append_nil]
 have := Bt.less (P := P) (p := p) (fr := fr) (h := h.set id (topB n)) (i := id) (B := topB n) (B' := .dead) (by rw [List.getElem?_set_self hid]) (fun _ _ _ _ _ _ => trivial) (fun q => by cases q) (fun q => by cases q)
 rwa [List.set_set] at this
end
open Classical in
noncomputable def KB9 {α : Type} (r : Row α) : List AV → List AB → Option (AV × List AB)
 | [s], h => if s.isNs = true then some (.tu [], h) else (getS r h s).bind fun l => match idOf s with
   | [id] => if s = rsl r id l ∧ h[id]? = some (resB r true l) ∧ l.length ≤ 1000000 then some (.tu [], h.set id .dead) else none
   | _ => none
 | _, _ => none
theorem Y6K {h : List AB} {id : Nat} (e : h[id]? = some .dead) : h.set id .dead = h := by
 apply List.ext_getElem?
 intro j
 rw [List.getElem?_set]
 split
 ·rename_i hij
  subst hij
  first | rw [if_pos (List.getElem?_eq_some_iff.1 e).1, e] | rw [e]
 ·rfl
theorem JF0 {α : Type} {r : Row α} (h : List AB) : KB9 r [.ns] h = some (.tu [], h) := rfl
theorem Zuu {α : Type} {r : Row α} {h : List AB} {id : Nat} {l : List α} (hb : h[id]? = some (resB r true l)) (hl : l.length ≤ 1000000) (x : List AB) : KB9 r [rsl r id l] (h ++ x) = some (.tu [], h.set id .dead ++ x) := by
 have hlt := (List.getElem?_eq_some_iff.1 hb).1
 have hb' : (h ++ x)[id]? = some (resB r true l) := by rw [List.getElem?_append_left hlt]; exact hb
 have hg : getS r (h ++ x) (rsl r id l) = some l := (Zzg hb' (by unfold maxLen; omega)).get
 have hid : idOf (rsl r id l) = [id] := by unfold rsl; split <;> rfl
 have hn : (rsl r id l).isNs = false := by unfold rsl; split <;> rfl
 unfold KB9
 simp only [hn, Bool.false_eq_true, if_false, hg, Option.bind_some, hid, hb', hl, and_self, if_true]
 rw [List.set_append_left _ _ hlt]
end Go.Proofs.Ytbcpcjofkfgjoaa
end
section
namespace Go.Proofs.Ytbcpcjofkfgjoaa
set_option maxRecDepth 100000
set_option maxHeartbeats 4000000
noncomputable def ZcN : List AV → List AB → Option (AV × List AB)
 | [a, b], h => (getS Yl8 h a).bind fun xs => (getS Yl8 h b).bind fun ys => some (.b (decide (xs = ys)), h)
 | _, _ => none
noncomputable def JdZ : List AV → List AB → Option (AV × List AB)
 | [a, b], h => (getS idR h a).bind fun xs => (getS idR h b).bind fun ys => some (.b (decide (xs = ys)), h)
 | _, _ => none
theorem YDy : Spec Try.prog 32 JdZ := by
 intro args h v h' e
 unfold JdZ at e
 split at e
 ·rename_i a b
  obtain ⟨xs, ha, e⟩ := Yc7 e
  obtain ⟨ys, hb, e⟩ := Yc7 e
  cases e
  refine FnAt.c (FnAt.frz0 fun hz => ?_)
  replace ha := ha.frz
  replace hb := hb.frz
  generalize h.map AB.freeze = h at *
  refine FnAt.run (by kernel_rfl) (T := ⟨[], []⟩) ⟨trivial, trivial⟩ Try.func32 sw32 fun ho hh => ?_
  simp only [Qlf, Bool.and_eq_true] at ho
  have fa := ha.fx ho.1 (sz := 32) rfl
  have fb := hb.fx ho.2.1 (sz := 32) rfl
  unfold w32
  simp only [QZz, KkX, KtL, Kg0, simprocAttr, fa, fb]
  refine ZiF (S := Nat) (fun i => xs.length - i) (fun i => [a, b] ++ tp 3 ++ [.b (decide (xs.length = ys.length ∧ xs.take i = ys.take i)), .i .i64 i] ++ tp 24) (fun i => xs.length = ys.length → i ≤ xs.length) 0 (fun _ => Nat.zero_le _) (by simp only [KtL, Kg0, simprocAttr, List.take_zero]) fun i hi => ?_
  simp only [KtL, Kg0, simprocAttr, fa, fb]
  refine ⟨fun h1 => ⟨fun h2 => ?_, fun h2 => ?_⟩, fun h1 => ?_⟩
  ·have h3 : i < ys.length := by omega
   have e1 : IntKind.i64.wrap ((i : Int) + 1) = ((i + 1 : Nat) : Int) := qfU (by have := ha.2; unfold maxLen at this; unfold In64; omega)
   simp only [KtL, KED, Kg0, simprocAttr, CO.tmps, Opd.tmps, optT, Nat.reducePow, Nat.reduceDiv, Nat.reduceMod, fa, fb, h2, h3, Qfd, JGP, Nat.zero_lt_one, e1]
   refine ⟨i + 1, fun _ => h2, by omega, ?_, Wk.refl _⟩
   have e2 : (xs.length = ys.length ∧ xs.take (i + 1) = ys.take (i + 1)) = (xs.getD i idR.d = ys.getD i idR.d) := propext (by rw [and_iff_right h1.1]; exact ZxP _ h2 h3 h1.2)
   simp only [e2, Z2E]
  ·exact Bt.eq (by simp only [AV.b.injEq, decide_eq_decide]; exact XwO (by omega)) (List.append_nil h)
  ·exact Bt.eq (by simp only [AV.b.injEq, decide_eq_decide]; exact iff_of_false h1 (Qvx h1)) (List.append_nil h)
 ·cases e
end Go.Proofs.Ytbcpcjofkfgjoaa
end
section
namespace Go.Proofs.Ytbcpcjofkfgjoaa
set_option maxRecDepth 100000
set_option maxHeartbeats 4000000
section
variable {P : Program} {h : List AB} {id n : Nat}
end
def zQb : List AV := .i .u8 1 :: .i .u8 2 :: .i .u8 3 :: List.replicate 29 (.i .u8 0)
theorem JVD : Spec Try.prog 33 (KB9 idR) := by
 intro args h v h' e
 unfold KB9 at e
 split at e
 ·rename_i s
  split at e
  ·rename_i hns
   cases e
   cases s <;> first | (cases hns; done) | skip
   refine FnAt.c (FnAt.run (by kernel_rfl) (T := ⟨[], []⟩) ⟨trivial, trivial⟩ Try.func33 sw33 fun ho hh => ?_)
   unfold w33
   simp only [QZz, KkX, KtL, Kg0, simprocAttr]
   refine ZiF (S := Unit) (fun _ => 0) (fun _ => [.ns] ++ tp 1 ++ [.i .i64 0] ++ tp 10) (fun _ => True) () trivial (by simp only [KtL, Kg0, simprocAttr]) fun _ _ => ?_
   simp only [KtL, Kg0, simprocAttr, Int.lt_irrefl, false_implies]
   exact Bt.eq rfl (List.append_nil h)
  ·obtain ⟨l, hs, e⟩ := Yc7 e
   split at e
   ·rename_i id hid
    split at e
    ·rename_i hc
     cases e
     obtain ⟨h1, h2, h3⟩ := hc
     have hlt := (List.getElem?_eq_some_iff.1 h2).1
     by_cases h0 : l.length = 0
     ·have e2 : h.set id .dead = h := Y6K (by rw [h2]; unfold resB; rw [if_pos h0])
      rw [e2, h1]
      unfold rsl
      rw [if_pos h0]
      refine FnAt.c (FnAt.run (by kernel_rfl) (T := ⟨[], []⟩) ⟨trivial, trivial⟩ Try.func33 sw33 fun ho hh => ?_)
      unfold w33
      simp only [QZz, KkX, KtL, Kg0, simprocAttr]
      refine ZiF (S := Unit) (fun _ => 0) (fun _ => [.sl id 0 0 0 (some 0)] ++ tp 1 ++ [.i .i64 0] ++ tp 10) (fun _ => True) () trivial (by simp only [KtL, Kg0, simprocAttr]) fun _ _ => ?_
      simp only [KtL, Kg0, simprocAttr, Int.natCast_zero, Int.lt_irrefl, false_implies, lenV]
      exact Bt.eq rfl (List.append_nil h)
     ·rw [h1]
      unfold rsl
      rw [if_neg h0]
      have hb : h[id]? = some (.blk true true (idR.cells l)) := by rw [h2]; unfold resB; rw [if_neg h0]
      refine FnAt.c (FnAt.run (by kernel_rfl) (T := ⟨[], []⟩) ⟨trivial, trivial⟩ Try.func33 sw33 fun ho hh => ?_)
      unfold w33
      simp only [QZz, KkX, KtL, Kg0, simprocAttr]
      refine zIs (S := Nat) (fun k => l.length - k) (fun k => [.sl id 0 l.length l.length (some idR.sz)] ++ tp 1 ++ [.i .i64 k] ++ tp 10) (fun _ => h.set id (topB (l.length * 32)) ++ []) (fun k => k ≤ l.length) 0 (Nat.zero_le _) (ZIl hb (idR.cells_len l) (by simp only [KtL, Kg0, simprocAttr])) fun k hk => ?_
      by_cases hlk : k < l.length
      ·have g1 : ((k : Int) < (l.length : Int)) = True := eq_true (by omega)
       have e1 : IntKind.i64.wrap ((k : Int) + 1) = ((k + 1 : Nat) : Int) := qfU (by have : l.length ≤ 1000000 := h3; unfold In64; omega)
       have e3 := Y5m (n := l.length * 32) hlt [] (0 + k * 32) 32 zQb rfl rfl (by omega)
       simp only [zQb, QZz, KkX] at e3
       simp only [QZz, KkX, KtL, Kg0, simprocAttr, lenV, g1, e1, iadV, hlk, e3, false_implies]
       exact ⟨k + 1, by omega, by dsimp only; omega, XB9 hlt _ _ (by simp only [List.length_cons, List.length_nil]; omega) (by simp only [KtL, Kg0, simprocAttr])⟩
      ·have g1 : ((k : Int) < (l.length : Int)) = False := eq_false (by omega)
       simp only [KtL, Kg0, simprocAttr, lenV, g1, false_implies]
       exact qKE hlt
    ·cases e
   ·cases e
 ·cases e
end Go.Proofs.Ytbcpcjofkfgjoaa
end
section
namespace Go.Proofs.Ytbcpcjofkfgjoaa
set_option maxRecDepth 100000
set_option maxHeartbeats 4000000
noncomputable def XXK : List AV → List AB → Option (AV × List AB)
 | [a, b], h => (getS strR h a).bind fun xs => (getS strR h b).bind fun ys => some (.b (decide (xs = ys)), h)
 | _, _ => none
theorem YXo : Spec Try.prog 15 XXK := by
 intro args h v h' e
 unfold XXK at e
 split at e
 ·rename_i a b
  obtain ⟨xs, ha, e⟩ := Yc7 e
  obtain ⟨ys, hb, e⟩ := Yc7 e
  cases e
  refine FnAt.c (FnAt.frz0 fun hz => ?_)
  replace ha := ha.frz
  replace hb := hb.frz
  generalize h.map AB.freeze = h at *
  refine FnAt.run (by kernel_rfl) (T := ⟨[], []⟩) ⟨trivial, trivial⟩ Try.func15 sw15 fun ho hh => ?_
  simp only [Qlf, Bool.and_eq_true] at ho
  have fa := ha.fx ho.1 (sz := 1) rfl
  have fb := hb.fx ho.2.1 (sz := 1) rfl
  unfold w15
  simp only [QZz, KkX, KtL, Kg0, simprocAttr, fa, fb]
  refine ZiF (S := Nat) (fun i => xs.length - i) (fun i => [a, b] ++ tp 3 ++ [.b (decide (xs.length = ys.length ∧ xs.take i = ys.take i)), .i .i64 i] ++ tp 24) (fun i => xs.length = ys.length → i ≤ xs.length) 0 (fun _ => Nat.zero_le _) (by simp only [KtL, Kg0, simprocAttr, List.take_zero]) fun i hi => ?_
  simp only [KtL, Kg0, simprocAttr, fa, fb]
  refine ⟨fun h1 => ⟨fun h2 => ?_, fun h2 => ?_⟩, fun h1 => ?_⟩
  ·have h3 : i < ys.length := by omega
   have e1 : IntKind.i64.wrap ((i : Int) + 1) = ((i + 1 : Nat) : Int) := qfU (by have := ha.2; unfold maxLen at this; unfold In64; omega)
   simp only [KtL, KED, Kg0, simprocAttr, CO.tmps, Opd.tmps, optT, Nat.reducePow, Nat.reduceDiv, Nat.reduceMod, fa, fb, h2, h3, Zo3, zkT, Nat.zero_lt_one, e1]
   refine ⟨i + 1, fun _ => h2, by omega, ?_, Wk.refl _⟩
   have e2 : (xs.length = ys.length ∧ xs.take (i + 1) = ys.take (i + 1)) = (xs.getD i strR.d = ys.getD i strR.d) := propext (by rw [and_iff_right h1.1]; exact ZxP _ h2 h3 h1.2)
   simp only [e2, Z2E]
  ·exact Bt.eq (by simp only [AV.b.injEq, decide_eq_decide]; exact XwO (by omega)) (List.append_nil h)
  ·exact Bt.eq (by simp only [AV.b.injEq, decide_eq_decide]; exact iff_of_false h1 (Qvx h1)) (List.append_nil h)
 ·cases e
noncomputable def YRg : List AV → List AB → Option (AV × List AB)
 | [a], h => (getS strR h a).bind fun xs => if xs.length ≤ 1000000 then some (rsl strR h.length xs, h ++ [resB strR true xs]) else none
 | _, _ => none
theorem QIh : Spec Try.prog 12 YRg := by
 intro args h v h' e
 unfold YRg at e
 split at e
 ·rename_i a
  obtain ⟨xs, ha, e⟩ := Yc7 e
  split at e
  ·rename_i hl
   cases e
   refine FnAt.c ?_
   refine FnAt.run (by kernel_rfl) (T := ⟨[], []⟩) ⟨trivial, trivial⟩ Try.func12 sw12 fun ho hh => ?_
   simp only [Qlf, Bool.and_eq_true] at ho
   have fa := ha.fx ho.1 (sz := 1) rfl
   have fs := ha.src (sz := 1) rfl
   unfold w12
   by_cases h0 : xs.length = 0
   ·simp only [QZz, KkX, KtL, Kg0, simprocAttr, fa, fs, h0, XnW]
    exact Bt.one 0 hh (fun _ => Wk.empty _ _ _ _ _ _) (by simp) (fun h => absurd h0 h)
   ·simp only [QZz, KkX, KtL, Kg0, simprocAttr, fa, fs, h0, XnW]
    exact ⟨⟨by omega, by unfold maxLen; omega⟩, Bt.one 1 hh (fun h => absurd h h0) (by simp) (fun _ => ⟨rfl, rfl⟩)⟩
  ·cases e
 ·cases e
noncomputable def JU8 : List AV → List AB → Option (AV × List AB)
 | [a], h => (getS strR h a).bind fun xs => if xs.length ≤ 1000000 then some (rsl strR h.length xs, h ++ [resB strR true xs]) else none
 | _, _ => none
theorem Qof (h : List AB) (xs : List (List UInt8)) (h0 : xs.length = 0) : FnC Try.prog 50 [.se] h (rsl strR h.length xs) (h ++ [resB strR true xs]) := by
 refine FnAt.c (FnAt.run (by kernel_rfl) (T := ⟨[], []⟩) ⟨trivial, trivial⟩ Try.func50 sw50 fun ho hh => ?_)
 have fs : ∀ x : List AB, srcV (h ++ x) 1 .se = some (0, []) := fun _ => rfl
 unfold w50
 simp only [QZz, KkX, KtL, Kg0, simprocAttr, fs]
 exact Bt.one 0 hh (fun _ => Wk.empty _ _ _ _ _ _) (by simp) (fun h => absurd h0 h)
theorem Ydo (h : List AB) (xs : List (List UInt8)) (h0 : xs.length = 0) : FnC Try.prog 50 [.ns] h (rsl strR h.length xs) (h ++ [resB strR true xs]) := by
 refine FnAt.c (FnAt.run (by kernel_rfl) (T := ⟨[], []⟩) ⟨trivial, trivial⟩ Try.func50 sw50 fun ho hh => ?_)
 unfold w50
 simp only [QZz, KkX, KtL, Kg0, simprocAttr]
 exact Bt.one0 h0 (Wk.nil _ _)
theorem YPZ : Spec Try.prog 50 JU8 := by
 intro args h v h' e
 unfold JU8 at e
 split at e
 ·rename_i a
  obtain ⟨xs, ha, e⟩ := Yc7 e
  split at e
  ·rename_i hl
   cases e
   by_cases hk : ∃ id off cap, a = .sl id off 0 cap (some 0)
   ·obtain ⟨id, off, cap, rfl⟩ := hk
    have h0 : xs.length = 0 := by have := ha.len; simp only [lenV, Option.some.injEq] at this; omega
    exact FnC.empty1 (Ydo h xs h0) (Qof h xs h0)
   have hs := ha.isSl
   have hlen := ha.len
   cases a <;> first | (cases hs; done) | skip
   ·rename_i id off len cap k
    have hq : KML (.sl id off len cap k) .ns = some false := by
     rw [YWv, if_neg]
     rintro ⟨rfl, rfl⟩
     exact hk ⟨_, _, _, rfl⟩
    refine FnAt.c (FnAt.run (by kernel_rfl) (T := ⟨[], []⟩) ⟨trivial, trivial⟩ Try.func50 sw50 fun ho hh => ?_)
    simp only [Qlf, Bool.and_eq_true] at ho
    have fa := ha.fx ho.1 (sz := 1) rfl
    have fs := ha.src (sz := 1) rfl
    unfold w50
    by_cases h0 : xs.length = 0
    ·simp only [QZz, KkX, KtL, Kg0, simprocAttr, fa, fs, h0, hq, XnW]
     exact Bt.one 0 hh (fun _ => Wk.empty _ _ _ _ _ _) (by simp) (fun h => absurd h0 h)
    ·simp only [QZz, KkX, KtL, Kg0, simprocAttr, fa, fs, h0, hq, XnW]
     exact ⟨⟨by omega, by unfold maxLen; omega⟩, Bt.one 1 hh (fun h => absurd h h0) (by simp) (fun _ => ⟨rfl, rfl⟩)⟩
   ·exact Qof h xs (by simp only [lenV, Option.some.injEq] at hlen; omega)
   ·exact Ydo h xs (by simp only [lenV, Option.some.injEq] at hlen; omega)
  ·cases e
 ·cases e
theorem JRL : Spec Try.prog 16 (KB9 strR) := by
 intro args h v h' e
 unfold KB9 at e
 split at e
 ·rename_i s
  split at e
  ·rename_i hns
   cases e
   cases s <;> first | (cases hns; done) | skip
   refine FnAt.c (FnAt.run (by kernel_rfl) (T := ⟨[], []⟩) ⟨trivial, trivial⟩ Try.func16 sw16 fun ho hh => ?_)
   unfold w16
   simp only [QZz, KkX, KtL, Kg0, simprocAttr]
   refine ZiF (S := Unit) (fun _ => 0) (fun _ => [.ns] ++ tp 1 ++ [.i .i64 0] ++ tp 9) (fun _ => True) () trivial (by simp only [KtL, Kg0, simprocAttr]) fun _ _ => ?_
   simp only [KtL, Kg0, simprocAttr, Int.lt_irrefl, false_implies]
   exact Bt.eq rfl (List.append_nil h)
  ·obtain ⟨l, hs, e⟩ := Yc7 e
   split at e
   ·rename_i id hid
    split at e
    ·rename_i hc
     cases e
     obtain ⟨h1, h2, h3⟩ := hc
     have hlt := (List.getElem?_eq_some_iff.1 h2).1
     by_cases h0 : l.length = 0
     ·have e2 : h.set id .dead = h := Y6K (by rw [h2]; unfold resB; rw [if_pos h0])
      rw [e2, h1]
      unfold rsl
      rw [if_pos h0]
      refine FnAt.c (FnAt.run (by kernel_rfl) (T := ⟨[], []⟩) ⟨trivial, trivial⟩ Try.func16 sw16 fun ho hh => ?_)
      unfold w16
      simp only [QZz, KkX, KtL, Kg0, simprocAttr]
      refine ZiF (S := Unit) (fun _ => 0) (fun _ => [.sl id 0 0 0 (some 0)] ++ tp 1 ++ [.i .i64 0] ++ tp 9) (fun _ => True) () trivial (by simp only [KtL, Kg0, simprocAttr]) fun _ _ => ?_
      simp only [KtL, Kg0, simprocAttr, Int.natCast_zero, Int.lt_irrefl, false_implies, lenV]
      exact Bt.eq rfl (List.append_nil h)
     ·rw [h1]
      unfold rsl
      rw [if_neg h0]
      have hb : h[id]? = some (.blk true true (strR.cells l)) := by rw [h2]; unfold resB; rw [if_neg h0]
      refine FnAt.c (FnAt.run (by kernel_rfl) (T := ⟨[], []⟩) ⟨trivial, trivial⟩ Try.func16 sw16 fun ho hh => ?_)
      unfold w16
      simp only [QZz, KkX, KtL, Kg0, simprocAttr]
      refine zIs (S := Nat) (fun k => l.length - k) (fun k => [.sl id 0 l.length l.length (some strR.sz)] ++ tp 1 ++ [.i .i64 k] ++ tp 9) (fun _ => h.set id (topB l.length) ++ []) (fun k => k ≤ l.length) 0 (Nat.zero_le _) (ZIl hb (by simp [Row.cells_len, X0K]) (by simp only [KtL, Kg0, simprocAttr])) fun k hk => ?_
      by_cases hlk : k < l.length
      ·have g1 : ((k : Int) < (l.length : Int)) = True := eq_true (by omega)
       have e1 : IntKind.i64.wrap ((k : Int) + 1) = ((k + 1 : Nat) : Int) := qfU (by unfold In64; omega)
       have e3 := XDq (n := l.length) hlt [] (0 + k * 1) (.s [111, 118, 101, 114]) rfl rfl (by omega)
       simp only [KtL, Kg0, simprocAttr, lenV, g1, e1, iadV, hlk, e3, false_implies]
       exact ⟨k + 1, by omega, by dsimp only; omega, XB9 hlt _ _ (by simp; omega) (by simp only [KtL, Kg0, simprocAttr])⟩
      ·have g1 : ((k : Int) < (l.length : Int)) = False := eq_false (by omega)
       simp only [KtL, Kg0, simprocAttr, lenV, g1, false_implies]
       exact qKE hlt
    ·cases e
   ·cases e
 ·cases e
end Go.Proofs.Ytbcpcjofkfgjoaa
end
section
namespace Go.Proofs.Ytbcpcjofkfgjoaa
set_option maxRecDepth 100000
set_option maxHeartbeats 4000000
theorem qQz (x : Dg) : (idR.f x).length = 32 := idR.len x
theorem qsh (x : Dg) : (idR.f x).take 32 = idR.f x := List.take_of_length_le (by rw [qQz]; exact Nat.le_refl _)
theorem XqR : ∀ (zs l : List AV), l.length = zs.length → over zs 0 l = l := by
 intro zs l h
 simp only [over, List.take_zero, List.nil_append, Nat.zero_add]
 rw [List.drop_eq_nil_of_le (by omega), List.append_nil]
open Classical in
noncomputable def getI (a : AV) : Option Dg := if e : ∃ y, a = .ag (idR.f y) then some e.choose else none
theorem qnv (y : Dg) : getI (.ag (idR.f y)) = some y := by
 have e : ∃ z, AV.ag (idR.f y) = .ag (idR.f z) := ⟨y, rfl⟩
 unfold getI
 rw [dif_pos e]
 have h := e.choose_spec
 rw [AV.ag.injEq] at h
 rw [← idR.inj _ _ h]
theorem qe3 {β : Type} {a : AV} {f : Dg → Option β} {b : β} (e : (getI a).bind f = some b) : ∃ y, a = .ag (idR.f y) ∧ f y = some b := by
 unfold getI at e
 split at e
 ·rename_i h
  exact ⟨h.choose, h.choose_spec, e⟩
 ·cases e
theorem JsV (x : Dg) : bytesOf (idR.f x) = some x.l := ZsL x.l
noncomputable def Xcd : List AV → List AB → Option (AV × List AB)
 | [a, b], h => (srcV h 1 a).bind fun (_, xs) => (srcV h 1 b).bind fun (_, ys) => (bytesOf xs).bind fun l => (bytesOf ys).bind fun m => some (.i .i64 (cmpB l m), h)
 | _, _ => none
theorem Yq2 {T : Env} {fr : List AV} {h : List AB} (x y : Opd) : opR T (.bcmp x y) fr h = Xcd [x.ev fr, y.ev fr] h := by
 show ((srcV h 1 (x.ev fr)).bind fun (_, xs) => (srcV h 1 (y.ev fr)).bind fun (_, ys) => (bytesOf xs).bind fun l => (bytesOf ys).map fun m => (AV.i .i64 (Go.Extern.BytealgCompare.cmp ⟨l.toArray⟩ ⟨m.toArray⟩), h)) = _
 simp only [Xcd, YSY]
 congr 1; funext p; congr 1; funext q; congr 1; funext l
 cases bytesOf q.2 <;> rfl
theorem qUl : Spec Try.prog 65 Xcd := by
 intro args h v h' e
 have e0 := e
 unfold Xcd at e
 split at e
 ·rename_i a b
  obtain ⟨⟨_, xs⟩, h1, e⟩ := Option.bind_eq_some_iff.1 e
  obtain ⟨⟨_, ys⟩, h2, e⟩ := Option.bind_eq_some_iff.1 e
  obtain ⟨l, h3, e⟩ := Option.bind_eq_some_iff.1 e
  obtain ⟨m, h4, e⟩ := Option.bind_eq_some_iff.1 e
  cases e
  refine FnAt.c (FnAt.run (by kernel_rfl) (T := ⟨[], []⟩) ⟨trivial, trivial⟩ Try.func65 sw65 fun ho hh => ?_)
  have e1 : Xcd [a, b] (h ++ []) = some (.i .i64 (cmpB l m), h) := by rw [List.append_nil]; exact e0
  unfold w65
  simp only [QZz, KkX, KtL, Kg0, simprocAttr, Yq2, e1]
  exact Bt.eq rfl rfl
 ·cases e
theorem XJf {T : Env} {fr : List AV} {h : List AB} (n sz : Nat) (x : Opd) (lo hi mx : Option Opd) : opR T (.sla n sz x lo hi mx) fr h = (slA n sz (x.ev fr) (lo.map (Opd.ev fr)) (hi.map (Opd.ev fr)) (mx.map (Opd.ev fr))).map (·, h) := _root_.id rfl
theorem QFn (id off : Nat) : slA 32 1 (.p id off) none none none = some (.sl id off 32 32 none) := by simp [slA, bnd]
noncomputable def Zns : List AV → List AB → Option (AV × List AB)
 | [a, b], h => (getI a).bind fun x => (getI b).bind fun y => some (.i .i64 (cmpG x y), h)
 | _, _ => none
theorem XUj : Spec Try.prog 47 Zns := by
 intro args h v h' e
 unfold Zns at e
 split at e
 ·rename_i a b
  obtain ⟨x, hx, e2⟩ := qe3 e
  obtain ⟨y, hy, e3⟩ := qe3 e2
  clear e e2
  subst hx hy
  cases e3
  refine FnAt.c (FnAt.frz0 fun hz => ?_)
  generalize h.map AB.freeze = h at *
  refine FnAt.run (by kernel_rfl) (T := ⟨[⟨65, Xcd, fun _ => []⟩], []⟩) ⟨⟨qUl, trivial⟩, trivial⟩ Try.func47 sw47 fun ho hh => ?_
  unfold w47
  simp only [QZz, KkX, KtL, KED, Kg0, simprocAttr, CO.tmps, Opd.tmps, optT, Nat.reducePow, Nat.reduceDiv, Nat.reduceMod, XJf, QFn, Option.map_none, Xcd, JsV, zAC, qQz, qsh, XqR, Ja7 hh, YNX hz, zzR hz, QDS hz]
  exact Bt.dropI _ hh rfl
 ·cases e
end Go.Proofs.Ytbcpcjofkfgjoaa
end
section
namespace Go.Proofs.Ytbcpcjofkfgjoaa
set_option maxRecDepth 100000
set_option maxHeartbeats 4000000
theorem K1e {α : Type} {l : List α} {i : Nat} (d : α) (h : i < l.length) : l.getD i d ∈ l := by
 rw [List.getD_eq_getElem?_getD, List.getElem?_eq_getElem h]
 exact List.getElem_mem h
theorem KoQ {α : Type} {l : List α} {i : Nat} {d x : α} (h : i < l.length) (hx : x ∈ l.take (i + 1)) : x ∈ l.take i ∨ x = l.getD i d := by
 rw [List.take_succ_eq_append_getElem h, List.mem_append, List.mem_singleton] at hx
 rw [List.getD_eq_getElem?_getD, List.getElem?_eq_getElem h]
 exact hx
noncomputable def JZx : List AV → List AB → Option (AV × List AB)
 | [a, .i .i64 m, .i .i64 z], h => (getS strR h a).bind fun xs => if 0 ≤ m ∧ m < 1000000 then some (.b (decide (m < xs.length ∨ ∃ x ∈ xs, z < (x.length : Int))), h) else none
 | _, _ => none
theorem QwU (x : List UInt8) : (AV.s x).isStr = true := _root_.id rfl
theorem XBC (x : List UInt8) : lenV (.s x) = some (x.length : Int) := _root_.id rfl
theorem Y0D : Spec Try.prog 10 JZx := by
 intro args h v h' e
 unfold JZx at e
 split at e
 ·rename_i a m z
  obtain ⟨xs, ha, e⟩ := Yc7 e
  split at e
  ·rename_i hm
   cases e
   refine FnAt.c (FnAt.run (by kernel_rfl) (T := ⟨[], []⟩) ⟨trivial, trivial⟩ Try.func10 sw10 fun ho hh => ?_)
   simp only [Qlf, Bool.and_eq_true] at ho
   have fa := ha.fx ho.1 (sz := 1) rfl
   unfold w10
   simp only [QZz, KkX, KtL, Kg0, simprocAttr, fa]
   refine ZiF (S := Nat) (fun i => xs.length - i) (fun i => [a, .i .i64 m, .i .i64 z] ++ tp 4 ++ [.i .i64 i] ++ tp 22) (fun i => (i : Int) ≤ m + 1 ∧ i ≤ xs.length ∧ ∀ x ∈ xs.take i, (x.length : Int) ≤ z) 0 ⟨by omega, Nat.zero_le _, fun x hx => by simp at hx⟩ (by simp only [KtL, Kg0, simprocAttr]) fun i hi => ?_
   obtain ⟨i1, i2, i3⟩ := hi
   by_cases g1 : i < xs.length
   ·by_cases g2 : (i : Int) ≤ m
    ·have g1' : ((i : Int) < (xs.length : Int)) = True := eq_true (by omega)
     have g2' := eq_true g2
     have e1 : IntKind.i64.wrap ((i : Int) + 1) = ((i + 1 : Nat) : Int) := qfU (by unfold In64; omega)
     simp only [KtL, Kg0, simprocAttr, fa, g1', g1, g2', XBC, QwU, zkT, Nat.zero_lt_one, e1, false_implies, and_true]
     refine ⟨fun g3 => Bt.dropB _ hh ?_, fun g3 => ⟨i + 1, ⟨by omega, by omega, fun x hx => ?_⟩, by omega, Wk.refl _⟩⟩
     ·exact (decide_eq_true (Or.inr ⟨_, K1e _ g1, g3⟩)).symm
     ·rcases KoQ (d := strR.d) g1 hx with q | q
      ·exact i3 x q
      ·subst q; omega
    ·have g1' : ((i : Int) < (xs.length : Int)) = True := eq_true (by omega)
     have g2' := eq_false g2
     simp only [KtL, Kg0, simprocAttr, fa, g1', g1, g2', false_implies, and_true, true_and]
     exact Bt.dropB _ hh (decide_eq_decide.2 ⟨fun q => .inl q, fun _ => by omega⟩)
   ·have g1' : ((i : Int) < (xs.length : Int)) = False := eq_false (by omega)
    simp only [KtL, Kg0, simprocAttr, fa, g1', false_implies, and_true, true_and]
    refine Bt.dropB _ hh (decide_eq_decide.2 ⟨fun q => .inl q, fun q => q.resolve_right ?_⟩)
    rintro ⟨x, hx, hz⟩
    have := i3 x (by rw [List.take_of_length_le (by omega)]; exact hx)
    omega
  ·cases e
 ·cases e
noncomputable def XVE : List AV → List AB → Option (AV × List AB)
 | [.s a, .s b], h => some (.i .i64 (cmpB a b), h)
 | _, _ => none
theorem QNB {T : Env} {fr : List AV} {h : List AB} (x y : Opd) {a b : List UInt8} (hx : x.ev fr = .s a) (hy : y.ev fr = .s b) : opR T (.bcmp x y) fr h = some (.i .i64 (cmpB a b), h) := by
 rw [Yq2, hx, hy]
 simp only [Xcd]
 show ((some (a.length, a.map u8A) : Option (Nat × List AV)).bind _) = _
 rw [Option.bind_some]
 show ((some (b.length, b.map u8A) : Option (Nat × List AV)).bind _) = _
 rw [Option.bind_some]
 simp only [ZsL, Option.bind_some]
theorem JPw (a b : List UInt8) (h : List AB) : Xcd [.s a, .s b] h = some (.i .i64 (cmpB a b), h) := by
 have := QNB (T := ⟨[], []⟩) (fr := []) (h := h) (.c (.s a)) (.c (.s b)) rfl rfl
 rwa [Yq2] at this
theorem ZfK : Spec Try.prog 51 XVE := by
 intro args h v h' e
 unfold XVE at e
 split at e
 ·rename_i a b
  cases e
  refine FnAt.c (FnAt.run (by kernel_rfl) (T := ⟨[], []⟩) ⟨trivial, trivial⟩ Try.func51 sw51 fun ho hh => ?_)
  unfold w51
  simp only [QZz, KkX, KtL, Kg0, simprocAttr, Yq2, JPw]
  exact Bt.eq rfl (List.append_nil h)
 ·cases e
theorem J43 : Spec Try.prog 35 XVE := by
 intro args h v h' e
 unfold XVE at e
 split at e
 ·rename_i a b
  cases e
  refine FnAt.c (FnAt.run (by kernel_rfl) (T := ⟨[⟨51, XVE, fun _ => []⟩], []⟩) ⟨⟨ZfK, trivial⟩, trivial⟩ Try.func35 sw35 fun ho hh => ?_)
  unfold w35
  simp only [QZz, KkX, KtL, Kg0, simprocAttr, XVE]
  exact Bt.dropI _ hh rfl
 ·cases e
end Go.Proofs.Ytbcpcjofkfgjoaa
end
