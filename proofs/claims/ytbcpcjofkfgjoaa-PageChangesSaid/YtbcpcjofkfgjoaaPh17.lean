/- Part 17 of what the laws' proofs rest on. No condition. -/
import Derived.Test.YtbcpcjofkfgjoaaPh16
set_option linter.all false
section
namespace Go.Proofs.Ytbcpcjofkfgjoaa
set_option maxRecDepth 100000
def w89 : CF := ⟨187, [.t 4], .seq (.reg 0 [⟨some 4, none, .mv (.c (.i .i64 0))⟩]) (.block 0 (.seq (.reg 34 [⟨some 161, none, .mv (.t 1)⟩, ⟨some 162, none, .bin .leq (.c (.i .i32 0)) (.t 161)⟩, ⟨some 163, none, .mv (.t 162)⟩, ⟨some 164, some (163, true), .mv (.t 1)⟩, ⟨some 165, some (163, true), .bin .lss (.t 164) (.c (.i .i32 128))⟩, ⟨some 166, none, .pick (.t 163) (.t 165) (.c (.b false))⟩, ⟨some 160, none, .mv (.t 166)⟩]) (.cond (.t 160) (.seq (.reg 35 [⟨some 167, none, .mv (.t 0)⟩, ⟨some 168, none, .mv (.t 1)⟩, ⟨some 169, none, .cvi .u8 (.t 168)⟩, ⟨some 170, none, .call (.c (.f (.func 94) [] [])) [.t 167, .t 169]⟩, ⟨some 4, none, .mv (.t 170)⟩]) .ret) (.seq (.reg 36 [⟨some 172, none, .mv (.t 1)⟩, ⟨some 173, none, .bin .eql (.t 172) (.c (.i .i32 65533))⟩, ⟨some 171, none, .mv (.t 173)⟩]) (.cond (.t 171) (.seq (.seq (.reg 37 [⟨some 174, none, .mv (.t 0)⟩, ⟨some 175, none, .rng (.t 174)⟩]) (.block 9 (.loop (.seq (.reg 38 [⟨some 176, none, .nxt (.t 175)⟩, ⟨some 177, none, .ext (.t 176) 0⟩]) (.seq (.cond (.t 177) .skip (.exit 9)) (.block 10 (.seq (.reg 39 [⟨some 178, none, .ext (.t 176) 1⟩, ⟨some 179, none, .ext (.t 176) 2⟩, ⟨some 5, none, .mv (.t 178)⟩, ⟨some 6, none, .mv (.t 179)⟩]) (.seq (.reg 40 [⟨some 180, none, .mv (.t 6)⟩, ⟨some 181, none, .bin .eql (.t 180) (.c (.i .i32 65533))⟩]) (.cond (.t 181) (.seq (.reg 41 [⟨some 182, none, .mv (.t 5)⟩, ⟨some 4, none, .mv (.t 182)⟩]) .ret) .skip))))))))) (.seq (.reg 42 [⟨some 4, none, .mv (.c (.i .i64 (-1)))⟩]) .ret)) (.seq (.reg 43 [⟨some 184, none, .mv (.t 1)⟩, ⟨some 185, none, .call (.c (.f (.func 95) [] [])) [.t 184]⟩, ⟨some 186, none, .un .not (.t 185)⟩, ⟨some 183, none, .mv (.t 186)⟩]) (.cond (.t 183) (.seq (.reg 44 [⟨some 4, none, .mv (.c (.i .i64 (-1)))⟩]) .ret) (.scope (.seq (.reg 1 [⟨some 17, none, .mv (.t 1)⟩, ⟨some 18, none, .stop⟩, ⟨some 7, none, .mv (.t 18)⟩]) (.seq (.reg 2 [⟨some 19, none, .mv (.t 7)⟩, ⟨some 20, none, .len true (.t 19)⟩, ⟨some 21, none, .bin .sub (.t 20) (.c (.i .i64 1))⟩, ⟨some 8, none, .mv (.t 21)⟩]) (.seq (.reg 3 [⟨some 22, none, .mv (.t 8)⟩, ⟨some 9, none, .mv (.t 22)⟩]) (.seq (.reg 4 [⟨some 10, none, .mv (.c (.i .i64 0))⟩]) (.seq (.block 1 (.loop (.seq (.seq (.reg 5 [⟨some 23, none, .mv (.t 9)⟩, ⟨some 24, none, .mv (.t 0)⟩, ⟨some 25, none, .len true (.t 24)⟩, ⟨some 26, none, .bin .lss (.t 23) (.t 25)⟩]) (.cond (.t 26) .skip (.exit 1))) (.block 2 (.scope (.seq (.seq (.drw 6 [⟨⟨some 27, none, .mv (.t 0)⟩, 0, 1⟩, ⟨⟨some 28, none, .mv (.t 9)⟩, 0, 512⟩, ⟨⟨some 29, none, .ixs (.t 27) (.t 28)⟩, 3, 402653184⟩, ⟨⟨some 30, none, .mv (.t 7)⟩, 0, 128⟩, ⟨⟨some 31, none, .mv (.t 8)⟩, 0, 256⟩, ⟨⟨some 32, none, .ixs (.t 30) (.t 31)⟩, 24, 3221225472⟩, ⟨⟨some 33, none, .bin .neq (.t 29) (.t 32)⟩, 63, 4831838208⟩]) (.cond (.t 33) (.seq (.drw 7 [⟨⟨some 34, none, .mv (.t 0)⟩, 0, 1⟩, ⟨⟨some 35, none, .mv (.t 9)⟩, 0, 512⟩, ⟨⟨some 36, none, .bin .add (.t 35) (.c (.i .i64 1))⟩, 2, 34359738368⟩, ⟨⟨some 37, none, .sls (.t 34) (some (.t 36)) none⟩, 7, 85899345920⟩, ⟨⟨some 38, none, .mv (.t 7)⟩, 0, 128⟩, ⟨⟨some 39, none, .mv (.t 8)⟩, 0, 256⟩, ⟨⟨some 40, none, .ixs (.t 38) (.t 39)⟩, 48, 824633720832⟩, ⟨⟨some 41, none, .call (.c (.f (.func 94) [] [])) [.t 37, .t 40]⟩, 127, 1236950581248⟩, ⟨⟨some 11, none, .mv (.t 41)⟩, 255, 2199023255552⟩]) (.seq (.seq (.reg 8 [⟨some 42, none, .mv (.t 11)⟩, ⟨some 43, none, .bin .lss (.t 42) (.c (.i .i64 0))⟩]) (.cond (.t 43) (.seq (.reg 9 [⟨some 4, none, .mv (.c (.i .i64 (-1)))⟩]) .ret) .skip)) (.reg 10 [⟨some 44, none, .mv (.t 9)⟩, ⟨some 45, none, .mv (.t 11)⟩, ⟨some 46, none, .bin .add (.t 45) (.c (.i .i64 1))⟩, ⟨some 47, none, .bin .add (.t 44) (.t 46)⟩, ⟨some 9, none, .mv (.t 47)⟩]))) .skip)) (.seq (.seq (.reg 11 [⟨some 12, none, .mv (.c (.i .i64 1))⟩]) (.block 3 (.loop (.seq (.seq (.reg 12 [⟨some 48, none, .mv (.t 12)⟩, ⟨some 49, none, .mv (.t 7)⟩, ⟨some 50, none, .len true (.t 49)⟩, ⟨some 51, none, .bin .lss (.t 48) (.t 50)⟩]) (.cond (.t 51) .skip (.exit 3))) (.seq (.block 4 (.seq (.drw 14 [⟨⟨some 54, none, .mv (.t 0)⟩, 0, 1⟩, ⟨⟨some 55, none, .mv (.t 9)⟩, 0, 512⟩, ⟨⟨some 56, none, .mv (.t 12)⟩, 0, 4096⟩, ⟨⟨some 57, none, .bin .sub (.t 55) (.t 56)⟩, 6, 108086391056891904⟩, ⟨⟨some 58, none, .ixs (.t 54) (.t 57)⟩, 15, 162129586585337856⟩, ⟨⟨some 59, none, .mv (.t 7)⟩, 0, 128⟩, ⟨⟨some 60, none, .mv (.t 8)⟩, 0, 256⟩, ⟨⟨some 61, none, .mv (.t 12)⟩, 0, 4096⟩, ⟨⟨some 62, none, .bin .sub (.t 60) (.t 61)⟩, 192, 3458764513820540928⟩, ⟨⟨some 63, none, .ixs (.t 59) (.t 62)⟩, 480, 5188146770730811392⟩, ⟨⟨some 64, none, .bin .neq (.t 58) (.t 63)⟩, 1023, 9511602413006487552⟩]) (.cond (.t 64) .stop .skip))) (.reg 13 [⟨some 52, none, .mv (.t 12)⟩, ⟨some 53, none, .bin .add (.t 52) (.c (.i .i64 1))⟩, ⟨some 12, none, .mv (.t 53)⟩])))))) (.seq (.seq (.reg 15 [⟨some 65, none, .mv (.t 9)⟩, ⟨some 66, none, .mv (.t 8)⟩, ⟨some 67, none, .bin .sub (.t 65) (.t 66)⟩, ⟨some 4, none, .mv (.t 67)⟩]) .ret) (.seq .skip (.seq (.reg 16 [⟨some 68, none, .mv (.t 10)⟩, ⟨some 69, none, .bin .add (.t 68) (.c (.i .i64 1))⟩, ⟨some 10, none, .mv (.t 69)⟩]) (.seq (.reg 17 [⟨some 70, none, .mv (.t 9)⟩, ⟨some 71, none, .bin .add (.t 70) (.c (.i .i64 1))⟩, ⟨some 9, none, .mv (.t 71)⟩]) (.seq (.reg 18 [⟨some 72, none, .mv (.c (.b true))⟩, ⟨some 73, some (72, true), .mv (.t 10)⟩, ⟨some 74, some (72, true), .mv (.t 9)⟩, ⟨some 75, some (72, true), .call (.c (.f (.func 96) [] [])) [.t 74]⟩, ⟨some 76, some (72, true), .bin .gtr (.t 73) (.t 75)⟩, ⟨some 77, none, .pick (.t 72) (.t 76) (.c (.b false))⟩, ⟨some 78, none, .mv (.t 77)⟩, ⟨some 79, some (78, true), .mv (.t 9)⟩, ⟨some 80, some (78, true), .mv (.t 0)⟩, ⟨some 81, some (78, true), .len true (.t 80)⟩, ⟨some 82, some (78, true), .bin .lss (.t 79) (.t 81)⟩, ⟨some 83, none, .pick (.t 78) (.t 82) (.c (.b false))⟩, ⟨some 84, none, .mv (.t 83)⟩, ⟨some 85, some (84, false), .mv (.c (.b false))⟩, ⟨some 86, some (85, true), .mv (.t 10)⟩, ⟨some 87, some (85, true), .mv (.t 9)⟩, ⟨some 88, some (85, true), .bin .shr (.t 87) (.c (.i .u64 4))⟩, ⟨some 89, some (85, true), .bin .add (.c (.i .i64 4)) (.t 88)⟩, ⟨some 90, some (85, true), .bin .geq (.t 86) (.t 89)⟩, ⟨some 91, some (84, false), .pick (.t 85) (.t 90) (.c (.b false))⟩, ⟨some 92, some (84, false), .mv (.t 91)⟩, ⟨some 93, some (92, true), .mv (.t 9)⟩, ⟨some 94, some (92, true), .mv (.t 0)⟩, ⟨some 95, some (92, true), .len true (.t 94)⟩, ⟨some 96, some (92, true), .bin .lss (.t 93) (.t 95)⟩, ⟨some 97, some (84, false), .pick (.t 92) (.t 96) (.c (.b false))⟩, ⟨some 98, none, .pick (.t 84) (.c (.b true)) (.t 97)⟩]) (.cond (.t 98) .stop .skip))))))))))))) (.seq (.seq (.reg 19 [⟨some 4, none, .mv (.c (.i .i64 (-1)))⟩]) .ret) (.seq .skip (.seq (.cond (.c (.b true)) (.seq (.reg 20 [⟨some 99, none, .mv (.t 0)⟩, ⟨some 100, none, .mv (.t 9)⟩, ⟨some 101, none, .mv (.t 8)⟩, ⟨some 102, none, .bin .sub (.t 100) (.t 101)⟩, ⟨some 103, none, .sls (.t 99) (some (.t 102)) none⟩, ⟨some 104, none, .mv (.t 1)⟩, ⟨some 105, none, .stop⟩, ⟨some 106, none, .call (.c (.f (.func 97) [] [])) [.t 103, .t 105]⟩, ⟨some 13, none, .mv (.t 106)⟩]) (.seq (.reg 21 [⟨some 107, none, .mv (.t 13)⟩, ⟨some 108, none, .bin .geq (.t 107) (.c (.i .i64 0))⟩]) (.cond (.t 108) (.seq (.reg 22 [⟨some 109, none, .mv (.t 9)⟩, ⟨some 110, none, .mv (.t 13)⟩, ⟨some 111, none, .bin .add (.t 109) (.t 110)⟩, ⟨some 112, none, .mv (.t 8)⟩, ⟨some 113, none, .bin .sub (.t 111) (.t 112)⟩, ⟨some 4, none, .mv (.t 113)⟩]) .ret) .skip))) (.scope (.seq (.reg 23 [⟨some 114, none, .mv (.t 7)⟩, ⟨some 115, none, .mv (.t 8)⟩, ⟨some 116, none, .ixs (.t 114) (.t 115)⟩, ⟨some 14, none, .mv (.t 116)⟩]) (.seq (.reg 24 [⟨some 117, none, .mv (.t 7)⟩, ⟨some 118, none, .mv (.t 8)⟩, ⟨some 119, none, .bin .sub (.t 118) (.c (.i .i64 1))⟩, ⟨some 120, none, .ixs (.t 117) (.t 119)⟩, ⟨some 15, none, .mv (.t 120)⟩]) (.seq .skip (.block 5 (.loop (.seq (.seq (.reg 25 [⟨some 121, none, .mv (.t 9)⟩, ⟨some 122, none, .mv (.t 0)⟩, ⟨some 123, none, .len true (.t 122)⟩, ⟨some 124, none, .bin .lss (.t 121) (.t 123)⟩]) (.cond (.t 124) .skip (.exit 5))) (.seq (.block 6 (.seq (.reg 27 [⟨some 127, none, .mv (.t 0)⟩, ⟨some 128, none, .mv (.t 9)⟩, ⟨some 129, none, .ixs (.t 127) (.t 128)⟩, ⟨some 130, none, .mv (.t 14)⟩, ⟨some 131, none, .bin .eql (.t 129) (.t 130)⟩, ⟨some 132, none, .mv (.t 131)⟩, ⟨some 133, some (132, true), .mv (.t 0)⟩, ⟨some 134, some (132, true), .mv (.t 9)⟩, ⟨some 135, some (132, true), .bin .sub (.t 134) (.c (.i .i64 1))⟩, ⟨some 136, some (132, true), .ixs (.t 133) (.t 135)⟩, ⟨some 137, some (132, true), .mv (.t 15)⟩, ⟨some 138, some (132, true), .bin .eql (.t 136) (.t 137)⟩, ⟨some 139, none, .pick (.t 132) (.t 138) (.c (.b false))⟩]) (.cond (.t 139) (.seq (.seq (.reg 28 [⟨some 16, none, .mv (.c (.i .i64 2))⟩]) (.block 7 (.loop (.seq (.seq (.reg 29 [⟨some 140, none, .mv (.t 16)⟩, ⟨some 141, none, .mv (.t 7)⟩, ⟨some 142, none, .len true (.t 141)⟩, ⟨some 143, none, .bin .lss (.t 140) (.t 142)⟩]) (.cond (.t 143) .skip (.exit 7))) (.seq (.block 8 (.seq (.drw 31 [⟨⟨some 146, none, .mv (.t 0)⟩, 0, 1⟩, ⟨⟨some 147, none, .mv (.t 9)⟩, 0, 512⟩, ⟨⟨some 148, none, .mv (.t 16)⟩, 0, 65536⟩, ⟨⟨some 149, none, .bin .sub (.t 147) (.t 148)⟩, 6, 535217884764734955396857238543560676143529984⟩, ⟨⟨some 150, none, .ixs (.t 146) (.t 149)⟩, 15, 802826827147102433095285857815341014215294976⟩, ⟨⟨some 151, none, .mv (.t 7)⟩, 0, 128⟩, ⟨⟨some 152, none, .mv (.t 8)⟩, 0, 256⟩, ⟨⟨some 153, none, .mv (.t 16)⟩, 0, 65536⟩, ⟨⟨some 154, none, .bin .sub (.t 152) (.t 153)⟩, 192, 17126972312471518572699431633393941636592959488⟩, ⟨⟨some 155, none, .ixs (.t 151) (.t 154)⟩, 480, 25690458468707277859049147450090912454889439232⟩, ⟨⟨some 156, none, .bin .neq (.t 150) (.t 155)⟩, 1023, 47099173859296676074923436991833339500630638592⟩]) (.cond (.t 156) (.exit 6) .skip))) (.reg 30 [⟨some 144, none, .mv (.t 16)⟩, ⟨some 145, none, .bin .add (.t 144) (.c (.i .i64 1))⟩, ⟨some 16, none, .mv (.t 145)⟩])))))) (.seq (.reg 32 [⟨some 157, none, .mv (.t 9)⟩, ⟨some 158, none, .mv (.t 8)⟩, ⟨some 159, none, .bin .sub (.t 157) (.t 158)⟩, ⟨some 4, none, .mv (.t 159)⟩]) .ret)) .skip))) (.reg 26 [⟨some 125, none, .mv (.t 9)⟩, ⟨some 126, none, .bin .add (.t 125) (.c (.i .i64 1))⟩, ⟨some 9, none, .mv (.t 126)⟩])))))))))) (.seq (.reg 33 [⟨some 4, none, .mv (.c (.i .i64 (-1)))⟩]) .ret)))))))))))))))))⟩
theorem sw89 : z47 Try.prog Try.f89 = some w89 := by kernel_rfl
def w90 : CF := ⟨42, [.t 4], .seq (.reg 0 [⟨some 2, none, .box true 1 (.t 0)⟩, ⟨some 4, none, .mv (.c .np)⟩]) (.seq (.block 0 (.seq (.reg 1 [⟨some 6, none, .mv (.t 1)⟩, ⟨some 7, none, .bin .eql (.t 6) (.c (.i .i32 47))⟩, ⟨some 8, none, .mv (.t 7)⟩, ⟨some 9, some (8, true), .fad 0 (.t 2)⟩, ⟨some 10, some (8, true), .ld none (.t 9)⟩, ⟨some 11, some (8, true), .bin .gtr (.t 10) (.c (.i .i64 0))⟩, ⟨some 12, none, .pick (.t 8) (.t 11) (.c (.b false))⟩, ⟨some 5, none, .mv (.t 12)⟩]) (.cond (.t 5) (.seq (.reg 2 [⟨some 13, none, .fad 0 (.t 2)⟩, ⟨some 14, none, .ld none (.t 13)⟩, ⟨some 15, none, .bin .sub (.t 14) (.c (.i .i64 1))⟩, ⟨some 16, none, .bld [.i .i64 0] [(0, 1, .t 15)]⟩, ⟨some 17, none, .call (.c (.f (.func 72) [] [])) [.t 16]⟩, ⟨some 4, none, .mv (.t 17)⟩]) .ret) (.seq (.reg 3 [⟨some 19, none, .mv (.t 1)⟩, ⟨some 20, none, .bin .eql (.t 19) (.c (.i .i32 46))⟩, ⟨some 18, none, .mv (.t 20)⟩]) (.cond (.t 18) (.seq (.reg 4 [⟨some 21, none, .ld (some 1) (.t 2)⟩, ⟨some 22, none, .mkf (.func 84) [.t 21] []⟩, ⟨some 23, none, .bld [.nf, .b false] [(0, 1, .t 22)]⟩, ⟨some 24, none, .box false 2 (.t 23)⟩, ⟨some 4, none, .mv (.t 24)⟩]) .ret) (.seq (.reg 5 [⟨some 26, none, .mv (.t 1)⟩, ⟨some 27, none, .bin .eql (.t 26) (.c (.i .i32 95))⟩, ⟨some 25, none, .mv (.t 27)⟩]) (.cond (.t 25) (.seq (.reg 6 [⟨some 28, none, .ld (some 1) (.t 2)⟩, ⟨some 29, none, .mkf (.func 98) [.t 28] []⟩, ⟨some 30, none, .bld [.nf, .b false] [(0, 1, .t 29)]⟩, ⟨some 31, none, .box false 2 (.t 30)⟩, ⟨some 4, none, .mv (.t 31)⟩]) .ret) (.seq (.reg 7 [⟨some 33, none, .mv (.t 1)⟩, ⟨some 34, none, .bin .eql (.t 33) (.c (.i .i32 45))⟩, ⟨some 32, none, .mv (.t 34)⟩]) (.cond (.t 32) (.seq (.reg 8 [⟨some 35, none, .ld (some 1) (.t 2)⟩, ⟨some 36, none, .mkf (.func 99) [.t 35] []⟩, ⟨some 37, none, .bld [.nf, .b false] [(0, 1, .t 36)]⟩, ⟨some 38, none, .box false 2 (.t 37)⟩, ⟨some 4, none, .mv (.t 38)⟩]) .ret) .skip))))))))) (.seq (.reg 9 [⟨some 39, none, .ld (some 1) (.t 2)⟩, ⟨some 40, none, .mv (.t 1)⟩, ⟨some 41, none, .call (.c (.f (.func 84) [] [])) [.t 39, .t 40]⟩, ⟨some 4, none, .mv (.t 41)⟩]) .ret))⟩
theorem sw90 : z47 Try.prog Try.f90 = some w90 := by kernel_rfl
def w91 : CF := ⟨14, [.t 4], .seq (.reg 0 [⟨some 4, none, .mv (.c .np)⟩]) (.seq (.seq (.reg 1 [⟨some 5, none, .mv (.t 0)⟩, ⟨some 6, none, .ld none (.t 1)⟩, ⟨some 7, none, .ixs (.t 6) (.c (.i .i64 0))⟩, ⟨some 8, none, .cvi .i32 (.t 7)⟩, ⟨some 9, none, .bin .eql (.t 5) (.t 8)⟩]) (.cond (.t 9) (.seq (.drw 2 [⟨⟨some 10, none, .ld none (.t 1)⟩, 0, 2⟩, ⟨⟨some 11, none, .sls (.t 10) (some (.c (.i .i64 1))) none⟩, 1, 1024⟩, ⟨⟨some 12, none, .ld none (.t 2)⟩, 0, 4⟩, ⟨⟨some 13, none, .call (.c (.f (.func 87) [] [])) [.t 11, .t 12]⟩, 7, 6144⟩, ⟨⟨some 4, none, .mv (.t 13)⟩, 15, 8192⟩]) .ret) .skip)) (.seq (.reg 3 [⟨some 4, none, .mv (.c .np)⟩]) .ret))⟩
theorem sw91 : z47 Try.prog Try.f91 = some w91 := by kernel_rfl
def w92 : CF := ⟨13, [.t 3], .seq (.reg 0 [⟨some 3, none, .mv (.c .np)⟩]) (.seq (.seq (.reg 1 [⟨some 4, none, .ld none (.t 1)⟩, ⟨some 5, none, .bin .gtr (.t 4) (.c (.i .i64 0))⟩, ⟨some 6, none, .mv (.t 5)⟩, ⟨some 7, some (6, true), .mv (.t 0)⟩, ⟨some 8, some (6, true), .call (.c (.f (.func 93) [] [])) [.t 7]⟩, ⟨some 9, none, .pick (.t 6) (.t 8) (.c (.b false))⟩]) (.cond (.t 9) (.seq (.reg 2 [⟨some 10, none, .ld none (.t 1)⟩, ⟨some 11, none, .bin .sub (.t 10) (.c (.i .i64 1))⟩, ⟨some 12, none, .call (.c (.f (.func 88) [] [])) [.t 11]⟩, ⟨some 3, none, .mv (.t 12)⟩]) .ret) .skip)) (.seq (.reg 3 [⟨some 3, none, .mv (.c .np)⟩]) .ret))⟩
theorem sw92 : z47 Try.prog Try.f92 = some w92 := by kernel_rfl
def w93 : CF := ⟨17, [.t 2], .seq (.reg 0 [⟨some 2, none, .mv (.c (.b false))⟩]) (.seq (.reg 1 [⟨some 3, none, .mv (.t 0)⟩, ⟨some 4, none, .bin .geq (.t 3) (.c (.i .i32 48))⟩, ⟨some 5, none, .mv (.t 4)⟩, ⟨some 6, some (5, true), .mv (.t 0)⟩, ⟨some 7, some (5, true), .bin .leq (.t 6) (.c (.i .i32 57))⟩, ⟨some 8, none, .pick (.t 5) (.t 7) (.c (.b false))⟩, ⟨some 9, none, .mv (.t 8)⟩, ⟨some 10, some (9, false), .mv (.t 0)⟩, ⟨some 11, some (9, false), .bin .geq (.t 10) (.c (.i .i32 97))⟩, ⟨some 12, some (9, false), .mv (.t 11)⟩, ⟨some 13, some (12, true), .mv (.t 0)⟩, ⟨some 14, some (12, true), .bin .leq (.t 13) (.c (.i .i32 102))⟩, ⟨some 15, some (9, false), .pick (.t 12) (.t 14) (.c (.b false))⟩, ⟨some 16, none, .pick (.t 9) (.c (.b true)) (.t 15)⟩, ⟨some 2, none, .mv (.t 16)⟩]) .ret)⟩
theorem sw93 : z47 Try.prog Try.f93 = some w93 := by kernel_rfl
def w94 : CF := ⟨8, [.t 4], .seq (.reg 0 [⟨some 4, none, .mv (.c (.i .i64 0))⟩]) (.seq (.reg 1 [⟨some 5, none, .mv (.t 0)⟩, ⟨some 6, none, .mv (.t 1)⟩, ⟨some 7, none, .call (.c (.f (.func 100) [] [])) [.t 5, .t 6]⟩, ⟨some 4, none, .mv (.t 7)⟩]) .ret)⟩
theorem sw94 : z47 Try.prog Try.f94 = some w94 := by kernel_rfl
def w95 : CF := ⟨17, [.t 2], .seq (.reg 0 [⟨some 2, none, .mv (.c (.b false))⟩]) (.seq (.block 0 (.seq (.reg 1 [⟨some 4, none, .mv (.t 0)⟩, ⟨some 5, none, .bin .leq (.c (.i .i32 0)) (.t 4)⟩, ⟨some 6, none, .mv (.t 5)⟩, ⟨some 7, some (6, true), .mv (.t 0)⟩, ⟨some 8, some (6, true), .bin .lss (.t 7) (.c (.i .i32 55296))⟩, ⟨some 9, none, .pick (.t 6) (.t 8) (.c (.b false))⟩, ⟨some 3, none, .mv (.t 9)⟩]) (.cond (.t 3) (.seq (.reg 2 [⟨some 2, none, .mv (.c (.b true))⟩]) .ret) (.seq (.reg 3 [⟨some 11, none, .mv (.t 0)⟩, ⟨some 12, none, .bin .lss (.c (.i .i32 57343)) (.t 11)⟩, ⟨some 13, none, .mv (.t 12)⟩, ⟨some 14, some (13, true), .mv (.t 0)⟩, ⟨some 15, some (13, true), .bin .leq (.t 14) (.c (.i .i32 1114111))⟩, ⟨some 16, none, .pick (.t 13) (.t 15) (.c (.b false))⟩, ⟨some 10, none, .mv (.t 16)⟩]) (.cond (.t 10) (.seq (.reg 4 [⟨some 2, none, .mv (.c (.b true))⟩]) .ret) .skip))))) (.seq (.reg 5 [⟨some 2, none, .mv (.c (.b false))⟩]) .ret))⟩
theorem sw95 : z47 Try.prog Try.f95 = some w95 := by kernel_rfl
def w96 : CF := ⟨6, [.t 2], .seq (.reg 0 [⟨some 2, none, .mv (.c (.i .i64 0))⟩]) (.seq (.reg 1 [⟨some 3, none, .mv (.t 0)⟩, ⟨some 4, none, .bin .add (.t 3) (.c (.i .i64 16))⟩, ⟨some 5, none, .bin .quo (.t 4) (.c (.i .i64 8))⟩, ⟨some 2, none, .mv (.t 5)⟩]) .ret)⟩
theorem sw96 : z47 Try.prog Try.f96 = some w96 := by kernel_rfl
def w98 : CF := ⟨14, [.t 4], .seq (.reg 0 [⟨some 2, none, .box true 1 (.t 0)⟩, ⟨some 4, none, .mv (.c .np)⟩]) (.seq (.seq (.reg 1 [⟨some 5, none, .mv (.t 1)⟩, ⟨some 6, none, .bin .eql (.t 5) (.c (.i .i32 95))⟩]) (.cond (.t 6) (.seq (.reg 2 [⟨some 7, none, .ld (some 1) (.t 2)⟩, ⟨some 8, none, .mkf (.func 84) [.t 7] []⟩, ⟨some 9, none, .bld [.nf, .b false] [(0, 1, .t 8)]⟩, ⟨some 10, none, .box false 2 (.t 9)⟩, ⟨some 4, none, .mv (.t 10)⟩]) .ret) .skip)) (.seq (.reg 3 [⟨some 11, none, .ld (some 1) (.t 2)⟩, ⟨some 12, none, .mv (.t 1)⟩, ⟨some 13, none, .call (.c (.f (.func 84) [] [])) [.t 11, .t 12]⟩, ⟨some 4, none, .mv (.t 13)⟩]) .ret))⟩
theorem sw98 : z47 Try.prog Try.f98 = some w98 := by kernel_rfl
def w99 : CF := ⟨14, [.t 4], .seq (.reg 0 [⟨some 2, none, .box true 1 (.t 0)⟩, ⟨some 4, none, .mv (.c .np)⟩]) (.seq (.seq (.reg 1 [⟨some 5, none, .mv (.t 1)⟩, ⟨some 6, none, .bin .eql (.t 5) (.c (.i .i32 45))⟩]) (.cond (.t 6) (.seq (.reg 2 [⟨some 7, none, .ld (some 1) (.t 2)⟩, ⟨some 8, none, .mkf (.func 99) [.t 7] []⟩, ⟨some 9, none, .bld [.nf, .b false] [(0, 1, .t 8)]⟩, ⟨some 10, none, .box false 2 (.t 9)⟩, ⟨some 4, none, .mv (.t 10)⟩]) .ret) .skip)) (.seq (.reg 3 [⟨some 11, none, .ld (some 1) (.t 2)⟩, ⟨some 12, none, .mv (.t 1)⟩, ⟨some 13, none, .call (.c (.f (.func 84) [] [])) [.t 11, .t 12]⟩, ⟨some 4, none, .mv (.t 13)⟩]) .ret))⟩
theorem sw99 : z47 Try.prog Try.f99 = some w99 := by kernel_rfl
def w100 : CF := ⟨8, [.t 4], .seq (.reg 0 [⟨some 4, none, .mv (.c (.i .i64 0))⟩]) (.seq (.reg 1 [⟨some 5, none, .mv (.t 0)⟩, ⟨some 6, none, .mv (.t 1)⟩, ⟨some 7, none, .bix (.t 5) (.t 6)⟩, ⟨some 4, none, .mv (.t 7)⟩]) .ret)⟩
theorem QiW : z47 Try.prog Try.f100 = some w100 := by kernel_rfl
end Go.Proofs.Ytbcpcjofkfgjoaa
end
section
namespace Go.Proofs.Ytbcpcjofkfgjoaa
theorem ZxP {α : Type} {xs ys : List α} {i : Nat} (d : α) (hx : i < xs.length) (hy : i < ys.length) (e : xs.take i = ys.take i) : (xs.take (i + 1) = ys.take (i + 1)) ↔ xs.getD i d = ys.getD i d := by
 rw [List.take_succ_eq_append_getElem hx, List.take_succ_eq_append_getElem hy, e, List.append_right_inj, List.getD_eq_getElem?_getD, List.getD_eq_getElem?_getD, List.getElem?_eq_getElem hx, List.getElem?_eq_getElem hy]
 simp
theorem XwO {α : Type} {xs ys : List α} {i : Nat} (hi : xs.length ≤ i) : (xs.length = ys.length ∧ xs.take i = ys.take i) ↔ xs = ys := by
 constructor
 ·rintro ⟨h1, h2⟩
  rwa [List.take_of_length_le hi, List.take_of_length_le (by omega)] at h2
 ·rintro rfl
  exact ⟨rfl, rfl⟩
theorem Qvx {α : Type} {xs ys : List α} {i : Nat} (h : ¬ (xs.length = ys.length ∧ xs.take i = ys.take i)) : ¬ xs = ys := by
 rintro rfl
 exact h ⟨rfl, rfl⟩
end Go.Proofs.Ytbcpcjofkfgjoaa
end
section
namespace Go.Proofs.Ytbcpcjofkfgjoaa
set_option maxRecDepth 100000
noncomputable def zNV : List AV → List AB → Option (AV × List AB)
 | [.ag [s, t]], h => (getS intR h s).bind fun v => (getS dotR h t).bind fun ds => some (.b (decide (20 < v.length ∨ 30 < ds.length)), h)
 | _, _ => none
def QlG : List AV → List AB → Option (AV × List AB)
 | [.i .i64 a, .i .i64 b], h => if (-9223372036854775808 ≤ a ∧ a ≤ 9223372036854775807) ∧ (-9223372036854775808 ≤ b ∧ b ≤ 9223372036854775807) then some (.i .i64 (if b ≤ 0 then 0 else a % b), h) else none
 | _, _ => none
theorem XRg : Spec Try.prog 27 QlG := by
 intro args h v h' e
 unfold QlG at e
 split at e
 ·rename_i a b
  split at e
  ·rename_i hc
   obtain ⟨ha, hb⟩ := hc
   cases e
   refine FnAt.c (FnAt.run (by kernel_rfl) (T := ⟨[], []⟩) ⟨trivial, trivial⟩ Try.func27 sw27 fun ho hh => ?_)
   unfold w27
   by_cases h0 : b ≤ 0
   ·have h0' := eq_true h0
    simp only [QZz, KkX, KtL, Kg0, simprocAttr, h0']
    exact ⟨Bt.eq rfl (List.append_nil h), fun q => q.elim⟩
   ·have h0' := eq_false h0
    have e1 : binV .rem (.i .i64 a) (.i .i64 b) = some (.i .i64 (a.tmod b)) := by
     show (if b = 0 then none else some (AV.i .i64 (a.tmod b))) = _
     rw [if_neg (by omega)]
    have t1 : -b < a.tmod b ∧ a.tmod b < b := ⟨Int.lt_tmod_of_pos a (by omega), Int.tmod_lt_of_pos a (by omega)⟩
    have em : a % b = a.tmod b % b := by
     have h1 := Int.mul_tdiv_add_tmod a b
     conv => lhs; rw [← h1]
     exact Int.mul_add_emod_self_left b _ _
    rw [if_neg h0]
    by_cases hn : a.tmod b < 0
    ·have e2 : IntKind.i64.wrap (a.tmod b + b) = a.tmod b + b := qfV (by unfold In64; omega)
     have e3 : a % b = a.tmod b + b := by rw [em, ← Int.add_emod_right, Int.emod_eq_of_lt (by omega) (by omega)]
     have hn' := eq_true hn
     simp only [QZz, KkX, KtL, Kg0, simprocAttr, h0', e1, e2, hn']
     first
      | exact ⟨fun q => q.elim, Bt.eq (by rw [e3]) (List.append_nil h), fun q => q.elim⟩
      | exact ⟨fun q => q.elim, fun _ => Bt.eq (by rw [e3]) (List.append_nil h), fun q => absurd hn q⟩
    ·have e3 : a % b = a.tmod b := by rw [em, Int.emod_eq_of_lt (by omega) (by omega)]
     have hn' := eq_false hn
     simp only [QZz, KkX, KtL, Kg0, simprocAttr, h0', e1, hn']
     exact ⟨fun q => q.elim, fun q => q.elim, Bt.eq (by rw [e3]) (List.append_nil h)⟩
  ·cases e
 ·cases e
end Go.Proofs.Ytbcpcjofkfgjoaa
end
section
namespace Go.Proofs.Ytbcpcjofkfgjoaa
set_option maxRecDepth 100000
set_option maxHeartbeats 4000000
theorem ZC1 {α : Type} {r : Row α} (id : Nat) (l : List α) : (apS r id l).capOk = true := by
 unfold apS
 split <;> simp [AV.capOk]
end Go.Proofs.Ytbcpcjofkfgjoaa
end
section
namespace Go.Proofs.Ytbcpcjofkfgjoaa
set_option maxRecDepth 100000
set_option maxHeartbeats 4000000
noncomputable def XXK : List AV → List AB → Option (AV × List AB)
 | [a, b], h => (getS strR h a).bind fun xs => (getS strR h b).bind fun ys => some (.b (decide (xs = ys)), h)
 | _, _ => none
theorem YXo : Spec Try.prog 15 XXK := by
 intro args h v h' e
 unfold XXK at e
 split at e
 ·rename_i a b
  obtain ⟨xs, ha, e⟩ := Yc7 e
  obtain ⟨ys, hb, e⟩ := Yc7 e
  cases e
  refine FnAt.c (FnAt.frz0 fun hz => ?_)
  replace ha := ha.frz
  replace hb := hb.frz
  generalize h.map AB.freeze = h at *
  refine FnAt.run (by kernel_rfl) (T := ⟨[], []⟩) ⟨trivial, trivial⟩ Try.func15 sw15 fun ho hh => ?_
  simp only [Qlf, Bool.and_eq_true] at ho
  have fa := ha.fx ho.1 (sz := 1) rfl
  have fb := hb.fx ho.2.1 (sz := 1) rfl
  unfold w15
  simp only [QZz, KkX, KtL, Kg0, simprocAttr, fa, fb]
  refine ZiF (S := Nat) (fun i => xs.length - i) (fun i => [a, b] ++ tp 3 ++ [.b (decide (xs.length = ys.length ∧ xs.take i = ys.take i)), .i .i64 i] ++ tp 24) (fun i => xs.length = ys.length → i ≤ xs.length) 0 (fun _ => Nat.zero_le _) (by simp only [KtL, Kg0, simprocAttr, List.take_zero]) fun i hi => ?_
  simp only [KtL, Kg0, simprocAttr, fa, fb]
  refine ⟨fun h1 => ⟨fun h2 => ?_, fun h2 => ?_⟩, fun h1 => ?_⟩
  ·have h3 : i < ys.length := by omega
   have e1 : IntKind.i64.wrap ((i : Int) + 1) = ((i + 1 : Nat) : Int) := qfV (by have := ha.2; unfold maxLen at this; unfold In64; omega)
   simp only [KtL, KED, Kg0, simprocAttr, CO.tmps, Opd.tmps, optT, Nat.reducePow, Nat.reduceDiv, Nat.reduceMod, fa, fb, h2, h3, Zo3, zkT, Nat.zero_lt_one, e1]
   refine ⟨i + 1, fun _ => h2, by omega, ?_, Wk.refl _⟩
   have e2 : (xs.length = ys.length ∧ xs.take (i + 1) = ys.take (i + 1)) = (xs.getD i strR.d = ys.getD i strR.d) := propext (by rw [and_iff_right h1.1]; exact ZxP _ h2 h3 h1.2)
   simp only [e2, Z2E]
  ·exact Bt.eq (by simp only [AV.b.injEq, decide_eq_decide]; exact XwO (by omega)) (List.append_nil h)
  ·exact Bt.eq (by simp only [AV.b.injEq, decide_eq_decide]; exact iff_of_false h1 (Qvx h1)) (List.append_nil h)
 ·cases e
noncomputable def YRg : List AV → List AB → Option (AV × List AB)
 | [a], h => (getS strR h a).bind fun xs => if xs.length ≤ 1000000 then some (rsl strR h.length xs, h ++ [resB strR true xs]) else none
 | _, _ => none
theorem QIh : Spec Try.prog 12 YRg := by
 intro args h v h' e
 unfold YRg at e
 split at e
 ·rename_i a
  obtain ⟨xs, ha, e⟩ := Yc7 e
  split at e
  ·rename_i hl
   cases e
   refine FnAt.c ?_
   refine FnAt.run (by kernel_rfl) (T := ⟨[], []⟩) ⟨trivial, trivial⟩ Try.func12 sw12 fun ho hh => ?_
   simp only [Qlf, Bool.and_eq_true] at ho
   have fa := ha.fx ho.1 (sz := 1) rfl
   have fs := ha.src (sz := 1) rfl
   unfold w12
   by_cases h0 : xs.length = 0
   ·simp only [QZz, KkX, KtL, Kg0, simprocAttr, fa, fs, h0, XnW]
    exact Bt.one 0 hh (fun _ => Wk.empty _ _ _ _ _ _) (by simp) (fun h => absurd h0 h)
   ·simp only [QZz, KkX, KtL, Kg0, simprocAttr, fa, fs, h0, XnW]
    exact ⟨⟨by omega, by unfold maxLen; omega⟩, Bt.one 1 hh (fun h => absurd h h0) (by simp) (fun _ => ⟨rfl, rfl⟩)⟩
  ·cases e
 ·cases e
noncomputable def JU8 : List AV → List AB → Option (AV × List AB)
 | [a], h => (getS strR h a).bind fun xs => if xs.length ≤ 1000000 then some (rsl strR h.length xs, h ++ [resB strR true xs]) else none
 | _, _ => none
theorem Qof (h : List AB) (xs : List (List UInt8)) (h0 : xs.length = 0) : FnC Try.prog 50 [.se] h (rsl strR h.length xs) (h ++ [resB strR true xs]) := by
 refine FnAt.c (FnAt.run (by kernel_rfl) (T := ⟨[], []⟩) ⟨trivial, trivial⟩ Try.func50 sw50 fun ho hh => ?_)
 have fs : ∀ x : List AB, srcV (h ++ x) 1 .se = some (0, []) := fun _ => rfl
 unfold w50
 simp only [QZz, KkX, KtL, Kg0, simprocAttr, fs]
 exact Bt.one 0 hh (fun _ => Wk.empty _ _ _ _ _ _) (by simp) (fun h => absurd h0 h)
theorem Ydo (h : List AB) (xs : List (List UInt8)) (h0 : xs.length = 0) : FnC Try.prog 50 [.ns] h (rsl strR h.length xs) (h ++ [resB strR true xs]) := by
 refine FnAt.c (FnAt.run (by kernel_rfl) (T := ⟨[], []⟩) ⟨trivial, trivial⟩ Try.func50 sw50 fun ho hh => ?_)
 unfold w50
 simp only [QZz, KkX, KtL, Kg0, simprocAttr]
 exact Bt.one0 h0 (Wk.nil _ _)
theorem YPZ : Spec Try.prog 50 JU8 := by
 intro args h v h' e
 unfold JU8 at e
 split at e
 ·rename_i a
  obtain ⟨xs, ha, e⟩ := Yc7 e
  split at e
  ·rename_i hl
   cases e
   by_cases hk : ∃ id off cap, a = .sl id off 0 cap (some 0)
   ·obtain ⟨id, off, cap, rfl⟩ := hk
    have h0 : xs.length = 0 := by have := ha.len; simp only [lenV, Option.some.injEq] at this; omega
    exact FnC.empty1 (Ydo h xs h0) (Qof h xs h0)
   have hs := ha.isSl
   have hlen := ha.len
   cases a <;> first | (cases hs; done) | skip
   ·rename_i id off len cap k
    have hq : KML (.sl id off len cap k) .ns = some false := by
     rw [YWv, if_neg]
     rintro ⟨rfl, rfl⟩
     exact hk ⟨_, _, _, rfl⟩
    refine FnAt.c (FnAt.run (by kernel_rfl) (T := ⟨[], []⟩) ⟨trivial, trivial⟩ Try.func50 sw50 fun ho hh => ?_)
    simp only [Qlf, Bool.and_eq_true] at ho
    have fa := ha.fx ho.1 (sz := 1) rfl
    have fs := ha.src (sz := 1) rfl
    unfold w50
    by_cases h0 : xs.length = 0
    ·simp only [QZz, KkX, KtL, Kg0, simprocAttr, fa, fs, h0, hq, XnW]
     exact Bt.one 0 hh (fun _ => Wk.empty _ _ _ _ _ _) (by simp) (fun h => absurd h0 h)
    ·simp only [QZz, KkX, KtL, Kg0, simprocAttr, fa, fs, h0, hq, XnW]
     exact ⟨⟨by omega, by unfold maxLen; omega⟩, Bt.one 1 hh (fun h => absurd h h0) (by simp) (fun _ => ⟨rfl, rfl⟩)⟩
   ·exact Qof h xs (by simp only [lenV, Option.some.injEq] at hlen; omega)
   ·exact Ydo h xs (by simp only [lenV, Option.some.injEq] at hlen; omega)
  ·cases e
 ·cases e
end Go.Proofs.Ytbcpcjofkfgjoaa
end
section
namespace Go.Proofs.Ytbcpcjofkfgjoaa
set_option maxRecDepth 100000
set_option maxHeartbeats 4000000
theorem XqR : ∀ (zs l : List AV), l.length = zs.length → over zs 0 l = l := by
 intro zs l h
 simp only [over, List.take_zero, List.nil_append, Nat.zero_add]
 rw [List.drop_eq_nil_of_le (by omega), List.append_nil]
noncomputable def Xcd : List AV → List AB → Option (AV × List AB)
 | [a, b], h => (srcV h 1 a).bind fun (_, xs) => (srcV h 1 b).bind fun (_, ys) => (bytesOf xs).bind fun l => (bytesOf ys).bind fun m => some (.i .i64 (cmpB l m), h)
 | _, _ => none
theorem Yq2 {T : Env} {fr : List AV} {h : List AB} (x y : Opd) : opR T (.bcmp x y) fr h = Xcd [x.ev fr, y.ev fr] h := by
 show ((srcV h 1 (x.ev fr)).bind fun (_, xs) => (srcV h 1 (y.ev fr)).bind fun (_, ys) => (bytesOf xs).bind fun l => (bytesOf ys).map fun m => (AV.i .i64 (Go.Extern.BytealgCompare.cmp ⟨l.toArray⟩ ⟨m.toArray⟩), h)) = _
 simp only [Xcd, YSY]
 congr 1; funext p; congr 1; funext q; congr 1; funext l
 cases bytesOf q.2 <;> rfl
end Go.Proofs.Ytbcpcjofkfgjoaa
end
section
namespace Go.Proofs.Ytbcpcjofkfgjoaa
set_option maxRecDepth 100000
set_option maxHeartbeats 4000000
theorem K1e {α : Type} {l : List α} {i : Nat} (d : α) (h : i < l.length) : l.getD i d ∈ l := by
 rw [List.getD_eq_getElem?_getD, List.getElem?_eq_getElem h]
 exact List.getElem_mem h
theorem KoQ {α : Type} {l : List α} {i : Nat} {d x : α} (h : i < l.length) (hx : x ∈ l.take (i + 1)) : x ∈ l.take i ∨ x = l.getD i d := by
 rw [List.take_succ_eq_append_getElem h, List.mem_append, List.mem_singleton] at hx
 rw [List.getD_eq_getElem?_getD, List.getElem?_eq_getElem h]
 exact hx
noncomputable def JZx : List AV → List AB → Option (AV × List AB)
 | [a, .i .i64 m, .i .i64 z], h => (getS strR h a).bind fun xs => if 0 ≤ m ∧ m < 1000000 then some (.b (decide (m < xs.length ∨ ∃ x ∈ xs, z < (x.length : Int))), h) else none
 | _, _ => none
theorem QwU (x : List UInt8) : (AV.s x).isStr = true := _root_.id rfl
theorem XBC (x : List UInt8) : lenV (.s x) = some (x.length : Int) := _root_.id rfl
theorem Y0D : Spec Try.prog 10 JZx := by
 intro args h v h' e
 unfold JZx at e
 split at e
 ·rename_i a m z
  obtain ⟨xs, ha, e⟩ := Yc7 e
  split at e
  ·rename_i hm
   cases e
   refine FnAt.c (FnAt.run (by kernel_rfl) (T := ⟨[], []⟩) ⟨trivial, trivial⟩ Try.func10 sw10 fun ho hh => ?_)
   simp only [Qlf, Bool.and_eq_true] at ho
   have fa := ha.fx ho.1 (sz := 1) rfl
   unfold w10
   simp only [QZz, KkX, KtL, Kg0, simprocAttr, fa]
   refine ZiF (S := Nat) (fun i => xs.length - i) (fun i => [a, .i .i64 m, .i .i64 z] ++ tp 4 ++ [.i .i64 i] ++ tp 22) (fun i => (i : Int) ≤ m + 1 ∧ i ≤ xs.length ∧ ∀ x ∈ xs.take i, (x.length : Int) ≤ z) 0 ⟨by omega, Nat.zero_le _, fun x hx => by simp at hx⟩ (by simp only [KtL, Kg0, simprocAttr]) fun i hi => ?_
   obtain ⟨i1, i2, i3⟩ := hi
   by_cases g1 : i < xs.length
   ·by_cases g2 : (i : Int) ≤ m
    ·have g1' : ((i : Int) < (xs.length : Int)) = True := eq_true (by omega)
     have g2' := eq_true g2
     have e1 : IntKind.i64.wrap ((i : Int) + 1) = ((i + 1 : Nat) : Int) := qfV (by unfold In64; omega)
     simp only [KtL, Kg0, simprocAttr, fa, g1', g1, g2', XBC, QwU, zkT, Nat.zero_lt_one, e1, false_implies, and_true]
     refine ⟨fun g3 => Bt.dropB _ hh ?_, fun g3 => ⟨i + 1, ⟨by omega, by omega, fun x hx => ?_⟩, by omega, Wk.refl _⟩⟩
     ·exact (decide_eq_true (Or.inr ⟨_, K1e _ g1, g3⟩)).symm
     ·rcases KoQ (d := strR.d) g1 hx with q | q
      ·exact i3 x q
      ·subst q; omega
    ·have g1' : ((i : Int) < (xs.length : Int)) = True := eq_true (by omega)
     have g2' := eq_false g2
     simp only [KtL, Kg0, simprocAttr, fa, g1', g1, g2', false_implies, and_true, true_and]
     exact Bt.dropB _ hh (decide_eq_decide.2 ⟨fun q => .inl q, fun _ => by omega⟩)
   ·have g1' : ((i : Int) < (xs.length : Int)) = False := eq_false (by omega)
    simp only [KtL, Kg0, simprocAttr, fa, g1', false_implies, and_true, true_and]
    refine Bt.dropB _ hh (decide_eq_decide.2 ⟨fun q => .inl q, fun q => q.resolve_right ?_⟩)
    rintro ⟨x, hx, hz⟩
    have := i3 x (by rw [List.take_of_length_le (by omega)]; exact hx)
    omega
  ·cases e
 ·cases e
noncomputable def XVE : List AV → List AB → Option (AV × List AB)
 | [.s a, .s b], h => some (.i .i64 (cmpB a b), h)
 | _, _ => none
theorem QNB {T : Env} {fr : List AV} {h : List AB} (x y : Opd) {a b : List UInt8} (hx : x.ev fr = .s a) (hy : y.ev fr = .s b) : opR T (.bcmp x y) fr h = some (.i .i64 (cmpB a b), h) := by
 rw [Yq2, hx, hy]
 simp only [Xcd]
 show ((some (a.length, a.map u8A) : Option (Nat × List AV)).bind _) = _
 rw [Option.bind_some]
 show ((some (b.length, b.map u8A) : Option (Nat × List AV)).bind _) = _
 rw [Option.bind_some]
 simp only [ZsL, Option.bind_some]
theorem JPw (a b : List UInt8) (h : List AB) : Xcd [.s a, .s b] h = some (.i .i64 (cmpB a b), h) := by
 have := QNB (T := ⟨[], []⟩) (fr := []) (h := h) (.c (.s a)) (.c (.s b)) rfl rfl
 rwa [Yq2] at this
theorem ZfK : Spec Try.prog 51 XVE := by
 intro args h v h' e
 unfold XVE at e
 split at e
 ·rename_i a b
  cases e
  refine FnAt.c (FnAt.run (by kernel_rfl) (T := ⟨[], []⟩) ⟨trivial, trivial⟩ Try.func51 sw51 fun ho hh => ?_)
  unfold w51
  simp only [QZz, KkX, KtL, Kg0, simprocAttr, Yq2, JPw]
  exact Bt.eq rfl (List.append_nil h)
 ·cases e
theorem J43 : Spec Try.prog 35 XVE := by
 intro args h v h' e
 unfold XVE at e
 split at e
 ·rename_i a b
  cases e
  refine FnAt.c (FnAt.run (by kernel_rfl) (T := ⟨[⟨51, XVE, fun _ => []⟩], []⟩) ⟨⟨ZfK, trivial⟩, trivial⟩ Try.func35 sw35 fun ho hh => ?_)
  unfold w35
  simp only [QZz, KkX, KtL, Kg0, simprocAttr, XVE]
  exact Bt.dropI _ hh rfl
 ·cases e
end Go.Proofs.Ytbcpcjofkfgjoaa
end
section
namespace Go.Proofs.Ytbcpcjofkfgjoaa
set_option maxRecDepth 100000
set_option maxHeartbeats 4000000
def bsS (l : List (List UInt8)) (d : List UInt8) : Nat := bsG cmpB [] l d 0 l.length
noncomputable def XBR : List AV → List AB → Option (AV × List AB)
 | [s, .s d, .f (.func 35) [] []], h => (getS strR h s).bind fun l =>
   if l.length ≤ 1000000 then some (.tu [.i .i64 (bsS l d), .b (decide (bsS l d < l.length ∧ cmpB (l.getD (bsS l d) []) d = 0))], h) else none
 | _, _ => none
theorem qPo : Spec Try.prog 49 XBR := by
 intro args h v h' e
 unfold XBR at e
 split at e
 ·rename_i s d
  obtain ⟨l, hs, e⟩ := Yc7 e
  split at e
  ·rename_i hl
   cases e
   refine FnAt.c (FnAt.run (by kernel_rfl) (T := ⟨[⟨35, XVE, fun _ => []⟩], []⟩) ⟨⟨J43, trivial⟩, trivial⟩ Try.func49 sw49 fun ho hh => ?_)
   simp only [Qlf, Bool.and_eq_true] at ho
   have f1 := hs.fx ho.1 (sz := 1) rfl
   unfold w49
   simp only [QZz, KkX, KtL, Kg0, simprocAttr, f1]
   refine ZiF (S := Nat × Nat) (fun x => x.2 - x.1) (fun x => [s, .s d, .f (.func 35) [] []] ++ tp 5 ++ [.i .i64 l.length, .i .i64 x.1, .i .i64 x.2] ++ tp 38) (fun x => x.1 ≤ x.2 ∧ x.2 ≤ l.length ∧ bsG cmpB [] l d x.1 x.2 = bsS l d) (0, l.length) ⟨Nat.zero_le _, Nat.le_refl _, rfl⟩ (by simp only [KtL, Kg0, simprocAttr]) fun x hx => ?_
   obtain ⟨lo, hi⟩ := x
   obtain ⟨x1, x2, x3⟩ := hx
   dsimp only at x1 x2 x3
   by_cases g : lo < hi
   ·have hm : (lo + hi) / 2 < l.length := by omega
    have e1 : IntKind.i64.wrap ((lo : Int) + (hi : Int)) = ((lo + hi : Nat) : Int) := qfV (by unfold In64; omega)
    have e2 : IntKind.u64.wrap ((lo + hi : Nat) : Int) = ((lo + hi : Nat) : Int) := by
     have : ((lo + hi : Nat) : Int) % 18446744073709551616 = ((lo + hi : Nat) : Int) := Int.emod_eq_of_lt (by omega) (by omega)
     exact this
    have e3 : ∀ k', binV .shr (.i .u64 ((lo + hi : Nat) : Int)) (.i k' 1) = some (.i .u64 (((lo + hi) / 2 : Nat) : Int)) := fun k' => by
     show (if (1 : Int) < 0 then none else some (AV.i .u64 (Int.fdiv ((lo + hi : Nat) : Int) (2 ^ (min (1 : Int).toNat IntKind.u64.bits))))) = _
     rw [if_neg (by decide), show ((2 : Int) ^ (min (1 : Int).toNat IntKind.u64.bits)) = 2 from by decide, Int.fdiv_eq_ediv_of_nonneg _ (by decide)]
     rfl
    have e4 : IntKind.i64.wrap (((lo + hi) / 2 : Nat) : Int) = (((lo + hi) / 2 : Nat) : Int) := qfV (by unfold In64; omega)
    have e5 : IntKind.i64.wrap ((((lo + hi) / 2 : Nat) : Int) + 1) = (((lo + hi) / 2 + 1 : Nat) : Int) := qfV (by unfold In64; omega)
    have e6 : ∀ k x, (AV.i k x).int? = some x := fun _ _ => rfl
    simp only [KtL, Kg0, simprocAttr, f1, g, hm, e1, e2, e3, e4, e5, e6, zkT, ZjM, XVE, Nat.zero_lt_one, false_implies, forall_const, and_true, true_and, not_true_eq_false, not_false_eq_true, XHZ]
    have x4 : ∀ (_ : True), bsG cmpB [] l d lo hi = if cmpB (l.getD ((lo + hi) / 2) []) d < 0 then bsG cmpB [] l d ((lo + hi) / 2 + 1) hi else bsG cmpB [] l d lo ((lo + hi) / 2) := fun _ => by rw [bsG, if_pos g]
    refine ⟨fun q => ⟨((lo + hi) / 2 + 1, hi), ⟨by dsimp only; omega, x2, ?_⟩, by dsimp only; omega, Wk.refl _, Wk.refl _⟩, fun q => ⟨(lo, (lo + hi) / 2), ⟨by dsimp only; omega, by dsimp only; omega, ?_⟩, by dsimp only; omega, Wk.refl _, Wk.refl _⟩⟩
    ·rw [← x3, x4 trivial, if_pos q]
    ·rw [← x3, x4 trivial, if_neg q]
   ·obtain rfl : lo = hi := by omega
    have x4 : bsS l d = lo := by rw [← x3, bsG, if_neg (Nat.lt_irrefl _)]
    by_cases g2 : lo < l.length
    ·simp only [KtL, Kg0, simprocAttr, f1, g, g2, x4, zkT, ZjM, XVE, Nat.zero_lt_one, false_implies, forall_const, and_true, true_and, not_true_eq_false, not_false_eq_true, XHZ]
     exact Bt.drop _ hh rfl rfl
    ·simp only [KtL, Kg0, simprocAttr, f1, g, g2, x4, zkT, ZjM, XVE, Nat.zero_lt_one, false_implies, forall_const, and_true, true_and, not_true_eq_false, not_false_eq_true, XHZ]
     exact Bt.drop _ hh (by rw [decide_eq_false fun q => q.1]) rfl
  ·cases e
 ·cases e
theorem qK5 {s s' : AV} {sz : Nat} {x : AV} (hc : s.capOk = true) (e : slL sz s (some x) none none = some s') : s'.capOk = true := by
 cases s with
 | sl id off len cap k =>
  simp only [AV.capOk, decide_eq_true_eq] at hc
  have e' : ((bnd 0 len (some x)).map fun l => if l = 0 then AV.sl id off len cap k
   else if l < cap then .sl id (off + l * sz) (len - l) (cap - l) (kcut k sz)
   else if k = none then .sl id off 0 0 none else .se) = some s' := e
  obtain ⟨l, hl, e'⟩ := Option.map_eq_some_iff.1 e'
  split at e'
  ·subst e'; simpa [AV.capOk] using hc
  ·split at e'
   ·subst e'; simp only [AV.capOk, decide_eq_true_eq]; omega
   ·split at e'
    ·subst e'; rfl
    ·subst e'; rfl
 | ns =>
  have e' : ((bnd 0 0 (some x)).map fun _ => AV.ns) = some s' := e
  obtain ⟨l, hl, e'⟩ := Option.map_eq_some_iff.1 e'
  subst e'; rfl
 | se =>
  have e' : ((bnd 0 0 (some x)).map fun _ => AV.se) = some s' := e
  obtain ⟨l, hl, e'⟩ := Option.map_eq_some_iff.1 e'
  subst e'; rfl
 | _ => cases e
def risS (l : List (List UInt8)) : Prop := ∀ j, j + 1 < l.length → ltS (l.getD j []) (l.getD (j + 1) [])
def posS (l : List (List UInt8)) (d : List UInt8) : Nat := if bsS l d < l.length ∧ cmpB (l.getD (bsS l d) []) d = 0 then bsS l d + 1 else bsS l d
theorem QA0 (l : List (List UInt8)) (d : List UInt8) : posS l d ≤ l.length := by
 have := Y9u cmpB [] l d 0 l.length (Nat.zero_le _)
 unfold posS bsS at *
 split <;> omega
def JIC (l : List (List UInt8)) (d : List UInt8) (b : Bool) : List (List UInt8) := if b = true then l.drop (posS l d) else l
open Classical in
noncomputable def Q7B : List AV → List AB → Option (AV × List AB)
 | [s, .f (.func 35) [] [], .s d, .b b, .i .i64 m], h => (getS strR h s).bind fun l => if l.length ≤ 1000000 ∧ s.capOk = true then
   (if m < 1 ∨ 100 < m then some (.tu [.ns, .b false, .i .i64 3], h)
   else if ¬ risS l then some (.tu [.ns, .b false, .i .i64 25], h)
   else some (.tu [rsl strR h.length ((JIC l d b).take m.toNat), .b (decide (m < ((JIC l d b).length : Int))), .i .i64 0], h ++ [resB strR true ((JIC l d b).take m.toNat)]))
  else none
 | _, _ => none
theorem minM (n : Nat) (m : Int) (h : 0 ≤ m) : mmV false (.i .i64 (n : Int)) (.i .i64 m) = some (.i .i64 ((min n m.toNat : Nat) : Int)) := by
 show some (AV.i .i64 (if m < (n : Int) then m else n)) = _
 congr 2
 split <;> omega
theorem zSL {α : Type} (l : List α) (m : Nat) : l.take (min l.length m) = l.take m := by
 by_cases h : l.length ≤ m
 ·rw [Nat.min_eq_left h, List.take_length, List.take_of_length_le h]
 ·rw [Nat.min_eq_right (by omega)]
theorem q8F {l : List (List UInt8)} {i : Nat} (h1 : 0 < i) (h2 : i < l.length) (h3 : ¬ ltS (l.getD (i - 1) []) (l.getD i [])) : ¬ risS l := fun r => h3 (by
 have := r (i - 1) (by omega)
 rwa [show i - 1 + 1 = i by omega] at this)
open Classical in
noncomputable def cutO (n : Nat) (l : List (List UInt8)) (d : List UInt8) (b : Bool) (m : Int) : AV × List AB :=
 if m < 1 ∨ 100 < m then (.tu [.ns, .b false, .i .i64 3], [])
 else if ¬ risS l then (.tu [.ns, .b false, .i .i64 25], [])
 else (.tu [rsl strR n ((JIC l d b).take m.toNat), .b (decide (m < ((JIC l d b).length : Int))), .i .i64 0], [resB strR true ((JIC l d b).take m.toNat)])
theorem Xm1 {h : List AB} (hz : h.map AB.freeze = h) {s : AV} {l : List (List UInt8)} {d : List UInt8} {b : Bool} {m : Int} (hs : Rd strR h s l) (hl : l.length ≤ 1000000) (hc : s.capOk = true) {v : AV} {N h2 : List AB} (ev : cutO h.length l d b m = (v, N)) (e2 : h2 = h ++ N) :
  FnAt Try.prog 34 [s, .f (.func 35) [] [], .s d, .b b, .i .i64 m] h v h2 := by
 unfold cutO at ev
 refine FnAt.run (by kernel_rfl) (T := ⟨[⟨35, XVE, fun _ => []⟩, ⟨49, XBR, fun _ => []⟩, ⟨50, JU8, fun _ => []⟩], []⟩) ⟨⟨J43, qPo, YPZ, trivial⟩, trivial⟩ Try.func34 sw34 fun ho hh => ?_
 simp only [Qlf, Bool.and_eq_true] at ho
 have f1 := hs.fx ho.1 (sz := 1) rfl
 unfold w34
 by_cases g1 : m < 1
 ·have g1' := eq_true g1
  rw [if_pos (.inl g1)] at ev
  cases ev
  rw [List.append_nil] at e2
  subst e2
  simp only [QZz, KkX, KtL, Kg0, simprocAttr, f1, g1', false_implies, forall_const, and_true, true_and, not_true_eq_false, not_false_eq_true, XHZ]
  exact Bt.drop _ hh rfl rfl
 by_cases g2 : 100 < m
 ·have g1' := eq_false g1
  have g2' := eq_true g2
  rw [if_pos (.inr g2)] at ev
  cases ev
  rw [List.append_nil] at e2
  subst e2
  simp only [QZz, KkX, KtL, Kg0, simprocAttr, f1, g1', g2', false_implies, forall_const, and_true, true_and, not_true_eq_false, not_false_eq_true, XHZ]
  exact Bt.drop _ hh rfl rfl
 have g1' := eq_false g1
 have g2' := eq_false g2
 simp only [QZz, KkX, KtL, Kg0, simprocAttr, f1, g1', g2', false_implies, forall_const, and_true, true_and, not_true_eq_false, not_false_eq_true, XHZ]
 refine ZiF (S := Nat) (fun i => l.length - i) (fun i => [s, .f (.func 35) [] [], .s d, .b b, .i .i64 m] ++ tp 18 ++ [.i .i64 l.length, .i .i64 i] ++ tp 44) (fun i => i ≤ l.length ∧ ∀ j, j + 1 < i → ltS (l.getD j []) (l.getD (j + 1) [])) 0 ⟨Nat.zero_le _, fun j hj => by omega⟩ (by simp only [KtL, Kg0, simprocAttr]) fun i hi => ?_
 obtain ⟨i1, i2⟩ := hi
 by_cases g3 : i < l.length
 ·have e1 : IntKind.i64.wrap ((i : Int) + 1) = ((i + 1 : Nat) : Int) := qfV (by unfold In64; omega)
  by_cases g4 : 0 < i
  ·have e2 : IntKind.i64.wrap ((i : Int) - 1) = ((i - 1 : Nat) : Int) := by rw [qfV (by unfold In64; omega)]; omega
   have g5 : i - 1 < l.length := by omega
   have g4' : ((0 : Int) < (i : Int)) = True := eq_true (by omega)
   by_cases g6 : ltS (l.getD (i - 1) []) (l.getD i [])
   ·have g6' : (0 ≤ cmpB (l.getD (i - 1) []) (l.getD i [])) = False := eq_false (by unfold ltS at g6; omega)
    simp only [KtL, KED, Kg0, simprocAttr, CO.tmps, Opd.tmps, optT, Nat.reducePow, Nat.reduceDiv, Nat.reduceMod, f1, g3, g4', g5, e1, e2, g6', zkT, ZjM, XVE, Nat.zero_lt_one, Ja7 hh, YNX hz, zzR hz, QDS hz, false_implies, forall_const, and_true, true_and, not_true_eq_false, not_false_eq_true, XHZ]
    refine ⟨i + 1, ⟨by omega, fun j hj => ?_⟩, by omega, Wk.refl _⟩
    by_cases hji : j + 1 = i
    ·obtain rfl : j = i - 1 := by omega
     rwa [show i - 1 + 1 = i by omega]
    ·exact i2 j (by omega)
   ·have g6' : (0 ≤ cmpB (l.getD (i - 1) []) (l.getD i [])) = True := eq_true (by unfold ltS at g6; omega)
    simp only [KtL, KED, Kg0, simprocAttr, CO.tmps, Opd.tmps, optT, Nat.reducePow, Nat.reduceDiv, Nat.reduceMod, f1, g3, g4', g5, e1, e2, g6', zkT, ZjM, XVE, Nat.zero_lt_one, Ja7 hh, YNX hz, zzR hz, QDS hz, false_implies, forall_const, and_true, true_and, not_true_eq_false, not_false_eq_true, XHZ]
    rw [if_neg (fun q => q.elim g1 g2), if_pos (q8F g4 g3 g6)] at ev
    cases ev
    rw [List.append_nil] at e2
    subst e2
    exact Bt.drop _ hh rfl rfl
  ·obtain rfl : i = 0 := by omega
   have g3' : ((0 : Int) < (l.length : Int)) = True := eq_true (by omega)
   have e1' : IntKind.i64.wrap ((0 : Int) + 1) = ((0 + 1 : Nat) : Int) := rfl
   simp only [KtL, KED, Kg0, simprocAttr, CO.tmps, Opd.tmps, optT, Nat.reducePow, Nat.reduceDiv, Nat.reduceMod, f1, g3, g3', e1', zkT, ZjM, XVE, Nat.zero_lt_one, Ja7 hh, YNX hz, zzR hz, QDS hz, Int.natCast_zero, Int.lt_irrefl, false_implies, forall_const, and_true, true_and, not_true_eq_false, not_false_eq_true, XHZ]
   refine ⟨0 + 1, ⟨by omega, fun j hj => by omega⟩, by omega, Wk.refl _⟩
 ·have hr : risS l := fun j hj => i2 j (by omega)
  have g3' : ((i : Int) < (l.length : Int)) = False := eq_false (by omega)
  rw [if_neg (fun q => q.elim g1 g2), if_neg (fun q => q hr)] at ev
  cases ev
  subst e2
  cases b with
  | false =>
   obtain ⟨s2, t1, t2, t3⟩ := hs.takeS hc (i := min l.length m.toNat) (Nat.min_le_left _ _) (sz := 1) rfl
   rw [zSL] at t2
   have f2 := t2.fx (t3 _ ho.1) (sz := 1) rfl
   have e5 := minM l.length m (by omega)
   simp only [KtL, KED, Kg0, simprocAttr, CO.tmps, Opd.tmps, optT, Nat.reducePow, Nat.reduceDiv, Nat.reduceMod, f1, f2, g3, g3', t1, e5, JU8, Nat.zero_lt_one, Ja7 hh, YNX hz, zzR hz, QDS hz, false_implies, forall_const, and_true, true_and, not_true_eq_false, not_false_eq_true, XHZ]
   exact ⟨by rw [List.length_take]; omega, Bt.eq rfl rfl⟩
  | true =>
   have er : JIC l d true = l.drop (posS l d) := rfl
   rw [er]
   have hp := QA0 l d
   obtain ⟨s1, u1, u2, u3⟩ := hs.dropS hc (i := posS l d) hp (sz := 1) rfl
   have hc1 := qK5 hc u1
   have f3 := u2.fx (u3 _ ho.1) (sz := 1) rfl
   obtain ⟨s2, t1, t2, t3⟩ := u2.takeS hc1 (i := min (l.drop (posS l d)).length m.toNat) (Nat.min_le_left _ _) (sz := 1) rfl
   rw [zSL] at t2
   have f2 := t2.fx (t3 _ (u3 _ ho.1)) (sz := 1) rfl
   have e5 := minM (l.drop (posS l d)).length m (by omega)
   have hbl : bsS l d ≤ l.length := Y9u cmpB [] l d 0 l.length (Nat.zero_le _)
   by_cases gp : bsS l d < l.length ∧ cmpB (l.getD (bsS l d) []) d = 0
   ·have gp' := eq_true gp
    have ep : posS l d = bsS l d + 1 := by unfold posS; rw [if_pos gp]
    have e1 : IntKind.i64.wrap ((bsS l d : Int) + 1) = ((posS l d : Nat) : Int) := by rw [qfV (by unfold In64; omega)]; omega
    generalize posS l d = p at *
    simp only [KtL, KED, Kg0, simprocAttr, CO.tmps, Opd.tmps, optT, Nat.reducePow, Nat.reduceDiv, Nat.reduceMod, f1, f2, f3, g3, g3', gp', e1, t1, u1, e5, JU8, XBR, hl, Nat.zero_lt_one, Ja7 hh, YNX hz, zzR hz, QDS hz, decide_true, false_implies, forall_const, and_true, true_and, not_true_eq_false, not_false_eq_true, XHZ]
    exact ⟨by rw [List.length_take, List.length_drop]; omega, Bt.eq rfl rfl⟩
   ·have gp' := eq_false gp
    have ep : posS l d = bsS l d := by unfold posS; rw [if_neg gp]
    have u1' : slL 1 s (some (.i .i64 ((bsS l d : Nat) : Int))) none none = some s1 := by rw [← ep]; exact u1
    simp only [KtL, KED, Kg0, simprocAttr, CO.tmps, Opd.tmps, optT, Nat.reducePow, Nat.reduceDiv, Nat.reduceMod, f1, f2, f3, g3, g3', gp', t1, u1', e5, JU8, XBR, hl, Nat.zero_lt_one, Ja7 hh, YNX hz, zzR hz, QDS hz, decide_false, false_implies, forall_const, and_true, true_and, not_true_eq_false, not_false_eq_true, XHZ]
    exact ⟨by rw [List.length_take, List.length_drop]; omega, Bt.eq rfl rfl⟩
theorem XJm : Spec Try.prog 34 Q7B := by
 intro args h v h' e
 unfold Q7B at e
 split at e
 ·rename_i s d b m
  obtain ⟨l, hs, e⟩ := Yc7 e
  split at e
  ·rename_i hl
   obtain ⟨hl, hc⟩ := hl
   by_cases g1 : m < 1 ∨ 100 < m
   ·rw [if_pos g1] at e
    cases e
    exact FnAt.c (FnAt.frz0 fun hz => Xm1 hz hs.frz hl hc (by unfold cutO; rw [if_pos g1]) (List.append_nil _).symm)
   rw [if_neg g1] at e
   by_cases g2 : risS l
   ·rw [if_neg (fun q => q g2)] at e
    cases e
    refine FnAt.c (FnAt.frz fun hz => Xm1 hz hs.frz hl hc ?_ rfl)
    unfold cutO
    rw [if_neg g1, if_neg (fun q => q g2), List.length_map]
   ·rw [if_pos g2] at e
    cases e
    exact FnAt.c (FnAt.frz0 fun hz => Xm1 hz hs.frz hl hc (by unfold cutO; rw [if_neg g1, if_pos g2]) (List.append_nil _).symm)
  ·cases e
 ·cases e
end Go.Proofs.Ytbcpcjofkfgjoaa
end
section
namespace Go.Proofs.Ytbcpcjofkfgjoaa
set_option maxRecDepth 100000
set_option maxHeartbeats 4000000
noncomputable def X7U : List AV → List AB → Option (AV × List AB)
 | [s, .s d, .i .i64 m], h => Q7B [s, .f (.func 35) [] [], .s d, .b (decide (¬ d = [])), .i .i64 m] h
 | _, _ => none
theorem Xzn {s : AV} {d : List UInt8} {b : Bool} {m : Int} {h : List AB} {v : AV} {h' : List AB} (e : Q7B [s, .f (.func 35) [] [], .s d, .b b, .i .i64 m] h = some (v, h')) :
  ∃ a c k N, v = .tu [a, .b c, .i .i64 k] ∧ h' = h ++ N := by
 unfold Q7B at e
 split at e
 ·obtain ⟨l, hs, e⟩ := Yc7 e
  split at e
  ·split at e
   ·cases e; exact ⟨_, _, _, [], rfl, (List.append_nil _).symm⟩
   ·split at e
    ·cases e; exact ⟨_, _, _, [], rfl, (List.append_nil _).symm⟩
    ·cases e; exact ⟨_, _, _, _, rfl, rfl⟩
  ·cases e
 ·cases e
theorem KHO : Spec Try.prog 13 X7U := by
 intro args h v h' e
 unfold X7U at e
 split at e
 ·rename_i s d m
  obtain ⟨a, c, k, N, rfl, rfl⟩ := Xzn e
  refine FnAt.c (FnAt.run (by kernel_rfl) (T := ⟨[⟨34, Q7B, fun _ => []⟩], []⟩) ⟨⟨XJm, trivial⟩, trivial⟩ Try.func13 sw13 fun ho hh => ?_)
  have e1 : Q7B [s, .f (.func 35) [] [], .s d, .b (decide (¬ d = [])), .i .i64 m] (h ++ []) = some (.tu [a, .b c, .i .i64 k], h ++ N) := by rw [List.append_nil]; exact e
  unfold w13
  simp only [QZz, KkX, KtL, Kg0, simprocAttr, XAf, e1, XHZ]
  exact Bt.eq rfl rfl
 ·cases e
def Q9V (d : List UInt8) (l : List (List UInt8)) : List (List UInt8) := l.filter fun x => decide (d = [] ∨ ltS d x)
end Go.Proofs.Ytbcpcjofkfgjoaa
end
section
namespace Go.Proofs.Ytbcpcjofkfgjoaa
theorem qPl {h : List AB} (L : List AB) (k i n sz by_ m : Nat) (ys : List AV) (hb : QNQ L k = true) (hx : (blkX L k).length = n * sz) (hs : sz ≠ 0) (hi : i < n) (hm : n < i + m) (h1 : (i + m) * by_ ≤ 140737488355328) (h2 : i + m ≤ maxLen) :
  appW (h ++ L) true sz by_ (.sl (h.length + k) 0 i n (some sz)) m ys = some (.sl (h.length + L.length) 0 (i + m) (i + m) (some sz), h ++ (JLX L k ++ [.blk true true ((blkX L k).take (i * sz) ++ ys)])) := by
 have hx2 := K3H L k hb
 have hlt : i * sz < n * sz := Nat.mul_lt_mul_of_pos_right hi (by omega)
 unfold appW
 dsimp only
 rw [if_neg (by omega : ¬ m = 0), if_neg (by omega), ZgF, hx2]
 simp only [true_and, Nat.zero_add, hx, Nat.le_of_lt hlt, h1, h2, and_self, if_true, reduceCtorEq, if_false, List.drop_zero, List.length_append]
 rw [if_neg (fun q => by omega), if_pos ⟨hs, trivial⟩, Xs8, List.set_append_right _ _ (by omega), Nat.add_sub_cancel_left, List.append_assoc]
theorem z6n {h : List AB} (L : List AB) (k n sz by_ m : Nat) (ys : List AV) (hb : QNQ L k = true) (hx : (blkX L k).length = n * sz) (hm : m ≠ 0) (h1 : (n + m) * by_ ≤ 140737488355328) (h2 : n + m ≤ maxLen) :
  appW (h ++ L) true sz by_ (.sl (h.length + k) 0 n n none) m ys = some (.sl (h.length + L.length) 0 (n + m) (n + m) (some sz), h ++ (L ++ [.blk true true (blkX L k ++ ys)])) := by
 have hx2 := K3H L k hb
 unfold appW
 dsimp only
 rw [if_neg hm, if_neg (by omega), ZgF, hx2]
 simp only [true_and, Nat.zero_add, hx, Nat.le_refl, h1, h2, and_self, if_true, List.drop_zero, List.length_append]
 rw [List.take_of_length_le (by omega), List.append_assoc]
theorem Zhs (id n i sz : Nat) (hi : i ≤ n) : slL sz (.sl id 0 n n (some sz)) none (some (.i .i64 (i : Int))) none = some (.sl id 0 i n (some sz)) := by
 simp only [slL, bnd, Option.map_some, if_true]
 rw [if_pos (by omega)]
 simp
theorem XVg (id n i sz : Nat) (hi : i < n) : ∃ kk, slL sz (.sl id 0 n n (some sz)) (some (.i .i64 (i : Int))) none none = some (.sl id (i * sz) (n - i) (n - i) kk) ∧ ∀ id2, slL sz (.sl id2 0 n n (some sz)) (some (.i .i64 (i : Int))) none none = some (.sl id2 (i * sz) (n - i) (n - i) kk) := by
 by_cases h0 : i = 0
 ·subst h0
  exact ⟨some sz, by simp [slL, bnd], fun id2 => by simp [slL, bnd]⟩
 ·refine ⟨kcut (some sz) sz, ?_, fun id2 => ?_⟩ <;> simp [slL, bnd, h0, hi] <;> omega
theorem Qi4 (id n sz : Nat) (hn : n ≠ 0) : slL sz (.sl id 0 n n (some sz)) (some (.i .i64 (n : Int))) none none = some .se := by
 simp [slL, bnd, hn]
end Go.Proofs.Ytbcpcjofkfgjoaa
end
