/- Part 12 of what the laws' proofs rest on. No condition. -/
import Derived.Test.YtpoojfnmhnedpaaMe11
set_option linter.all false
section
namespace Go.Proofs.Ytpoojfnmhnedpaa
set_option maxRecDepth 100000
def w75 : CF := ⟨157, [.t 4, .t 5], .seq (.reg 0 [⟨some 4, none, .mv (.c .ns)⟩, ⟨some 5, none, .mv (.c (.b false))⟩]) (.seq (.seq (.reg 1 [⟨some 17, none, .mv (.t 1)⟩]) (.block 0 (.seq (.reg 2 [⟨some 18, none, .tas (.t 17) 3 true (.i .i64 0)⟩, ⟨some 19, none, .ext (.t 18) 1⟩, ⟨some 20, none, .ext (.t 18) 0⟩]) (.cond (.t 19) (.seq (.reg 3 [⟨some 6, none, .mv (.t 20)⟩]) (.seq (.reg 4 [⟨some 21, none, .mv (.t 6)⟩, ⟨some 22, none, .call (.c (.f (.func 78) [] [])) [.t 21]⟩, ⟨some 7, none, .mv (.t 22)⟩]) (.seq (.seq (.reg 5 [⟨some 23, none, .mv (.t 7)⟩, ⟨some 24, none, .bin .eql (.t 23) (.c (.i .i64 0))⟩]) (.cond (.t 24) (.seq (.reg 6 [⟨some 25, none, .mv (.t 0)⟩, ⟨some 26, none, .mv (.t 6)⟩, ⟨some 27, none, .cvi .u8 (.t 26)⟩, ⟨some 28, none, .bls true 1 [.i .u8 0] [(0, 1, .t 27)]⟩, ⟨some 29, none, .app false true 1 1 (.t 25) (.t 28)⟩, ⟨some 30, none, .mv (.t 6)⟩, ⟨some 31, none, .bin .geq (.t 30) (.c (.i .i64 0))⟩, ⟨some 4, none, .mv (.t 29)⟩, ⟨some 5, none, .mv (.t 31)⟩]) .ret) .skip)) (.seq (.reg 7 [⟨some 32, none, .mv (.t 0)⟩, ⟨some 33, none, .mv (.t 7)⟩, ⟨some 34, none, .bin .add (.c (.i .i64 191)) (.t 33)⟩, ⟨some 35, none, .cvi .u8 (.t 34)⟩, ⟨some 36, none, .bls true 1 [.i .u8 0] [(0, 1, .t 35)]⟩, ⟨some 37, none, .app false true 1 1 (.t 32) (.t 36)⟩, ⟨some 0, none, .mv (.t 37)⟩]) (.seq (.seq (.reg 8 [⟨some 38, none, .mv (.t 7)⟩, ⟨some 39, none, .mv (.c (.i .i64 0))⟩]) (.block 1 (.loop (.seq (.reg 9 [⟨some 40, none, .bin .lss (.t 39) (.t 38)⟩]) (.seq (.cond (.t 40) .skip (.exit 1)) (.seq (.block 2 (.seq (.reg 10 [⟨some 41, none, .mv (.t 39)⟩, ⟨some 8, none, .mv (.t 41)⟩]) (.reg 11 [⟨some 42, none, .mv (.t 0)⟩, ⟨some 43, none, .mv (.t 6)⟩, ⟨some 44, none, .mv (.t 7)⟩, ⟨some 45, none, .bin .sub (.t 44) (.c (.i .i64 1))⟩, ⟨some 46, none, .mv (.t 8)⟩, ⟨some 47, none, .bin .sub (.t 45) (.t 46)⟩, ⟨some 48, none, .bin .mul (.c (.i .i64 8)) (.t 47)⟩, ⟨some 49, none, .bin .shr (.t 43) (.t 48)⟩, ⟨some 50, none, .cvi .u8 (.t 49)⟩, ⟨some 51, none, .bls true 1 [.i .u8 0] [(0, 1, .t 50)]⟩, ⟨some 52, none, .app false true 1 1 (.t 42) (.t 51)⟩, ⟨some 0, none, .mv (.t 52)⟩]))) (.reg 12 [⟨some 53, none, .bin .add (.t 39) (.c (.i .i64 1))⟩, ⟨some 39, none, .mv (.t 53)⟩]))))))) (.seq (.reg 13 [⟨some 54, none, .mv (.t 0)⟩, ⟨some 4, none, .mv (.t 54)⟩, ⟨some 5, none, .mv (.c (.b true))⟩]) .ret)))))) (.seq (.reg 14 [⟨some 55, none, .tas (.t 17) 9 true (.s [])⟩, ⟨some 56, none, .ext (.t 55) 1⟩, ⟨some 57, none, .ext (.t 55) 0⟩]) (.cond (.t 56) (.seq (.reg 15 [⟨some 9, none, .mv (.t 57)⟩]) (.seq (.reg 16 [⟨some 59, none, .mv (.t 0)⟩, ⟨some 60, none, .mv (.t 9)⟩, ⟨some 61, none, .len true (.t 60)⟩, ⟨some 62, none, .ifc 3 (.t 61)⟩, ⟨some 63, none, .call (.c (.f (.func 75) [] [])) [.t 59, .t 62]⟩, ⟨some 58, none, .mv (.t 63)⟩, ⟨some 64, none, .ext (.t 58) 0⟩, ⟨some 65, none, .ext (.t 58) 1⟩, ⟨some 0, none, .mv (.t 64)⟩]) (.seq (.reg 17 [⟨some 66, none, .mv (.t 0)⟩, ⟨some 67, none, .mv (.t 9)⟩, ⟨some 68, none, .app true true 1 1 (.t 66) (.t 67)⟩, ⟨some 4, none, .mv (.t 68)⟩, ⟨some 5, none, .mv (.c (.b true))⟩]) .ret))) (.seq (.reg 18 [⟨some 69, none, .tas (.t 17) 32 true .ns⟩, ⟨some 70, none, .ext (.t 69) 1⟩, ⟨some 71, none, .ext (.t 69) 0⟩]) (.cond (.t 70) (.seq (.reg 19 [⟨some 10, none, .mv (.t 71)⟩]) (.seq (.reg 20 [⟨some 73, none, .mv (.t 0)⟩, ⟨some 74, none, .mv (.t 10)⟩, ⟨some 75, none, .len false (.t 74)⟩, ⟨some 76, none, .ifc 3 (.t 75)⟩, ⟨some 77, none, .call (.c (.f (.func 75) [] [])) [.t 73, .t 76]⟩, ⟨some 72, none, .mv (.t 77)⟩, ⟨some 78, none, .ext (.t 72) 0⟩, ⟨some 79, none, .ext (.t 72) 1⟩, ⟨some 0, none, .mv (.t 78)⟩]) (.seq (.reg 21 [⟨some 80, none, .mv (.t 0)⟩, ⟨some 81, none, .mv (.t 10)⟩, ⟨some 82, none, .app false true 1 1 (.t 80) (.t 81)⟩, ⟨some 4, none, .mv (.t 82)⟩, ⟨some 5, none, .mv (.c (.b true))⟩]) .ret))) (.seq (.reg 22 [⟨some 83, none, .tas (.t 17) 23 true (.ag [.i .u8 0, .i .u8 0, .i .u8 0, .i .u8 0, .i .u8 0, .i .u8 0, .i .u8 0, .i .u8 0, .i .u8 0, .i .u8 0, .i .u8 0, .i .u8 0, .i .u8 0, .i .u8 0, .i .u8 0, .i .u8 0, .i .u8 0, .i .u8 0, .i .u8 0, .i .u8 0, .i .u8 0, .i .u8 0, .i .u8 0, .i .u8 0, .i .u8 0, .i .u8 0, .i .u8 0, .i .u8 0, .i .u8 0, .i .u8 0, .i .u8 0, .i .u8 0])⟩, ⟨some 84, none, .ext (.t 83) 1⟩, ⟨some 85, none, .ext (.t 83) 0⟩]) (.cond (.t 84) (.seq (.reg 23 [⟨some 11, none, .new true [.i .u8 0, .i .u8 0, .i .u8 0, .i .u8 0, .i .u8 0, .i .u8 0, .i .u8 0, .i .u8 0, .i .u8 0, .i .u8 0, .i .u8 0, .i .u8 0, .i .u8 0, .i .u8 0, .i .u8 0, .i .u8 0, .i .u8 0, .i .u8 0, .i .u8 0, .i .u8 0, .i .u8 0, .i .u8 0, .i .u8 0, .i .u8 0, .i .u8 0, .i .u8 0, .i .u8 0, .i .u8 0, .i .u8 0, .i .u8 0, .i .u8 0, .i .u8 0]⟩, ⟨none, none, .st (some 32) (.t 11) (.t 85)⟩]) (.seq (.reg 24 [⟨some 86, none, .mv (.t 0)⟩, ⟨some 87, none, .sla 32 1 (.t 11) none none none⟩, ⟨some 88, none, .app false true 1 1 (.t 86) (.t 87)⟩, ⟨some 4, none, .mv (.t 88)⟩, ⟨some 5, none, .mv (.c (.b true))⟩]) .ret)) (.seq (.reg 25 [⟨some 89, none, .tas (.t 17) 113 true (.ag [.i .i64 0, .i .i64 0])⟩, ⟨some 90, none, .ext (.t 89) 1⟩, ⟨some 91, none, .ext (.t 89) 0⟩]) (.cond (.t 90) (.seq (.reg 26 [⟨some 12, none, .new true [.i .i64 0, .i .i64 0]⟩, ⟨none, none, .st (some 2) (.t 12) (.t 91)⟩]) (.seq (.reg 27 [⟨some 93, none, .mv (.t 0)⟩, ⟨some 94, none, .fad 0 (.t 12)⟩, ⟨some 95, none, .ld none (.t 94)⟩, ⟨some 96, none, .ifc 3 (.t 95)⟩, ⟨some 97, none, .call (.c (.f (.func 75) [] [])) [.t 93, .t 96]⟩, ⟨some 92, none, .mv (.t 97)⟩, ⟨some 98, none, .ext (.t 92) 0⟩, ⟨some 99, none, .ext (.t 92) 1⟩, ⟨some 0, none, .mv (.t 98)⟩]) (.seq (.reg 28 [⟨some 101, none, .mv (.t 0)⟩, ⟨some 102, none, .fad 1 (.t 12)⟩, ⟨some 103, none, .ld none (.t 102)⟩, ⟨some 104, none, .ifc 3 (.t 103)⟩, ⟨some 105, none, .call (.c (.f (.func 75) [] [])) [.t 101, .t 104]⟩, ⟨some 100, none, .mv (.t 105)⟩, ⟨some 106, none, .ext (.t 100) 0⟩, ⟨some 107, none, .ext (.t 100) 1⟩, ⟨some 0, none, .mv (.t 106)⟩]) (.seq (.drw 29 [⟨⟨some 108, none, .mv (.t 0)⟩, 0, 1⟩, ⟨⟨some 109, none, .fad 0 (.t 12)⟩, 0, 4096⟩, ⟨⟨some 110, none, .ld none (.t 109)⟩, 2, 649037107316853453566312041152512⟩, ⟨⟨some 111, none, .bin .geq (.t 110) (.c (.i .i64 0))⟩, 6, 1298074214633706907132624082305024⟩, ⟨⟨some 112, none, .mv (.t 111)⟩, 14, 2596148429267413814265248164610048⟩, ⟨⟨some 113, some (112, true), .fad 1 (.t 12)⟩, 30, 5192296858534827628530496329224192⟩, ⟨⟨some 114, some (112, true), .ld none (.t 113)⟩, 62, 15576890575604482885591488987660288⟩, ⟨⟨some 115, some (112, true), .bin .geq (.t 114) (.c (.i .i64 0))⟩, 126, 25961484292674138142652481646100480⟩, ⟨⟨some 116, none, .pick (.t 112) (.t 115) (.c (.b false))⟩, 254, 46730671726813448656774466962980864⟩, ⟨⟨some 4, none, .mv (.t 108)⟩, 31, 324518553658426726783156020576256⟩, ⟨⟨some 5, none, .mv (.t 116)⟩, 1023, 83076749736557242056487941267521536⟩]) .ret)))) (.seq (.reg 30 [⟨some 117, none, .tas (.t 17) 107 true .ns⟩, ⟨some 118, none, .ext (.t 117) 1⟩, ⟨some 119, none, .ext (.t 117) 0⟩]) (.cond (.t 118) (.seq (.reg 31 [⟨some 13, none, .mv (.t 119)⟩]) (.seq (.reg 32 [⟨some 121, none, .mv (.t 0)⟩, ⟨some 122, none, .mv (.t 13)⟩, ⟨some 123, none, .len false (.t 122)⟩, ⟨some 124, none, .ifc 3 (.t 123)⟩, ⟨some 125, none, .call (.c (.f (.func 75) [] [])) [.t 121, .t 124]⟩, ⟨some 120, none, .mv (.t 125)⟩, ⟨some 126, none, .ext (.t 120) 0⟩, ⟨some 127, none, .ext (.t 120) 1⟩, ⟨some 0, none, .mv (.t 126)⟩]) (.seq (.seq (.reg 33 [⟨some 128, none, .mv (.t 13)⟩, ⟨some 129, none, .len false (.t 128)⟩, ⟨some 130, none, .mv (.c (.i .i64 0))⟩]) (.block 3 (.loop (.seq (.reg 34 [⟨some 131, none, .bin .lss (.t 130) (.t 129)⟩]) (.seq (.cond (.t 131) .skip (.exit 3)) (.seq (.block 4 (.seq (.reg 35 [⟨some 132, none, .iad 1 (.t 128) (.t 130)⟩, ⟨some 133, none, .ld none (.t 132)⟩, ⟨some 15, none, .mv (.t 133)⟩]) (.reg 36 [⟨some 135, none, .mv (.t 0)⟩, ⟨some 136, none, .mv (.t 15)⟩, ⟨some 137, none, .ifc 3 (.t 136)⟩, ⟨some 138, none, .call (.c (.f (.func 75) [] [])) [.t 135, .t 137]⟩, ⟨some 134, none, .mv (.t 138)⟩, ⟨some 139, none, .ext (.t 134) 0⟩, ⟨some 140, none, .ext (.t 134) 1⟩, ⟨some 0, none, .mv (.t 139)⟩]))) (.reg 37 [⟨some 141, none, .bin .add (.t 130) (.c (.i .i64 1))⟩, ⟨some 130, none, .mv (.t 141)⟩]))))))) (.seq (.reg 38 [⟨some 142, none, .mv (.t 0)⟩, ⟨some 143, none, .mv (.t 13)⟩, ⟨some 144, none, .call (.c (.f (.func 84) [] [])) [.t 143, .c (.f (.func 85) [] [])]⟩, ⟨some 145, none, .un .not (.t 144)⟩, ⟨some 4, none, .mv (.t 142)⟩, ⟨some 5, none, .mv (.t 145)⟩]) .ret)))) (.seq (.reg 39 [⟨some 146, none, .tas (.t 17) 4 true (.b false)⟩, ⟨some 147, none, .ext (.t 146) 1⟩, ⟨some 148, none, .ext (.t 146) 0⟩]) (.cond (.t 147) (.seq (.reg 40 [⟨some 16, none, .mv (.t 148)⟩]) (.seq (.seq (.reg 41 [⟨some 149, none, .mv (.t 16)⟩]) (.cond (.t 149) (.seq (.reg 42 [⟨some 150, none, .mv (.t 0)⟩, ⟨some 151, none, .bls true 1 [.i .u8 0] [(0, 1, .c (.i .u8 1))]⟩, ⟨some 152, none, .app false true 1 1 (.t 150) (.t 151)⟩, ⟨some 4, none, .mv (.t 152)⟩, ⟨some 5, none, .mv (.c (.b true))⟩]) .ret) .skip)) (.seq (.reg 43 [⟨some 153, none, .mv (.t 0)⟩, ⟨some 154, none, .bls true 1 [.i .u8 0] [(0, 1, .c (.i .u8 0))]⟩, ⟨some 155, none, .app false true 1 1 (.t 153) (.t 154)⟩, ⟨some 4, none, .mv (.t 155)⟩, ⟨some 5, none, .mv (.c (.b true))⟩]) .ret))) .skip)))))))))))))))) (.seq (.reg 44 [⟨some 156, none, .mv (.t 0)⟩, ⟨some 4, none, .mv (.t 156)⟩, ⟨some 5, none, .mv (.c (.b true))⟩]) .ret))⟩
theorem sw75 : QRK Try.prog Try.f75 = some w75 := by kernel_rfl
def w76 : CF := ⟨18, [], .seq (.reg 0 [⟨some 6, none, .mv (.t 0)⟩, ⟨some 7, none, .nck (.t 6)⟩, ⟨some 8, none, .fad 0 (.t 7)⟩, ⟨some 9, none, .fad 0 (.t 8)⟩, ⟨some 10, none, .ld none (.t 9)⟩, ⟨some 11, none, .bin .eql (.t 10) (.c (.i .i64 0))⟩]) (.cond (.t 11) (.reg 1 [⟨some 12, none, .mv (.t 0)⟩, ⟨some 13, none, .mv (.t 1)⟩, ⟨some 14, none, .mv (.t 2)⟩, ⟨some 15, none, .bld [.i .i64 0, .i .i64 0] [(0, 1, .t 13), (1, 1, .t 14)]⟩, ⟨some 16, none, .nck (.t 12)⟩, ⟨some 17, none, .fad 0 (.t 16)⟩, ⟨none, none, .st (some 2) (.t 17) (.t 15)⟩]) .skip)⟩
theorem sw76 : QRK Try.prog Try.f76 = some w76 := by kernel_rfl
def w77 : CF := ⟨19, [.t 2], .seq (.reg 0 [⟨some 2, none, .mv (.c (.b false))⟩]) (.seq (.reg 1 [⟨some 3, none, .mv (.t 0)⟩, ⟨some 4, none, .eqn false (.t 3) (.c .np)⟩, ⟨some 5, none, .mv (.t 4)⟩, ⟨some 6, some (5, false), .mv (.t 0)⟩, ⟨some 7, some (5, false), .nck (.t 6)⟩, ⟨some 8, some (5, false), .fad 0 (.t 7)⟩, ⟨some 9, some (5, false), .ld none (.t 8)⟩, ⟨some 10, some (5, false), .eqn false (.t 9) (.c .np)⟩, ⟨some 11, none, .pick (.t 5) (.c (.b true)) (.t 10)⟩, ⟨some 12, none, .mv (.t 11)⟩, ⟨some 13, some (12, false), .mv (.t 0)⟩, ⟨some 14, some (12, false), .nck (.t 13)⟩, ⟨some 15, some (12, false), .fad 0 (.t 14)⟩, ⟨some 16, some (12, false), .ld none (.t 15)⟩, ⟨some 17, some (12, false), .call (.c (.f (.func 58) [] [])) [.t 16]⟩, ⟨some 18, none, .pick (.t 12) (.c (.b true)) (.t 17)⟩, ⟨some 2, none, .mv (.t 18)⟩]) .ret)⟩
theorem sw77 : QRK Try.prog Try.f77 = some w77 := by kernel_rfl
def w78 : CF := ⟨18, [.t 2], .seq (.reg 0 [⟨some 2, none, .mv (.c (.i .i64 0))⟩]) (.seq (.seq (.reg 1 [⟨some 4, none, .mv (.t 0)⟩, ⟨some 5, none, .bin .lss (.t 4) (.c (.i .i64 192))⟩]) (.cond (.t 5) (.seq (.reg 2 [⟨some 2, none, .mv (.c (.i .i64 0))⟩]) .ret) .skip)) (.seq (.reg 3 [⟨some 3, none, .mv (.c (.i .i64 1))⟩]) (.seq (.block 0 (.loop (.seq (.seq (.reg 4 [⟨some 6, none, .mv (.t 3)⟩, ⟨some 7, none, .bin .lss (.t 6) (.c (.i .i64 8))⟩, ⟨some 8, none, .mv (.t 7)⟩, ⟨some 9, some (8, true), .mv (.t 0)⟩, ⟨some 10, some (8, true), .mv (.t 3)⟩, ⟨some 11, some (8, true), .bin .mul (.c (.i .i64 8)) (.t 10)⟩, ⟨some 12, some (8, true), .bin .shr (.t 9) (.t 11)⟩, ⟨some 13, some (8, true), .bin .gtr (.t 12) (.c (.i .i64 0))⟩, ⟨some 14, none, .pick (.t 8) (.t 13) (.c (.b false))⟩]) (.cond (.t 14) .skip (.exit 0))) (.block 1 (.reg 5 [⟨some 15, none, .mv (.t 3)⟩, ⟨some 16, none, .bin .add (.t 15) (.c (.i .i64 1))⟩, ⟨some 3, none, .mv (.t 16)⟩]))))) (.seq (.reg 6 [⟨some 17, none, .mv (.t 3)⟩, ⟨some 2, none, .mv (.t 17)⟩]) .ret))))⟩
theorem sw78 : QRK Try.prog Try.f78 = some w78 := by kernel_rfl
def w79 : CF := ⟨14, [.t 4], .seq (.reg 0 [⟨some 4, none, .mv (.c .ns)⟩]) (.seq (.reg 1 [⟨some 6, none, .mv (.t 0)⟩, ⟨some 7, none, .call (.c (.f (.func 86) [] [])) [.t 6]⟩, ⟨some 5, none, .mv (.t 7)⟩]) (.seq (.reg 2 [⟨some 8, none, .mv (.t 0)⟩, ⟨some 9, none, .mv (.t 0)⟩, ⟨some 10, none, .mv (.t 1)⟩, ⟨some 11, none, .call (.c (.f (.func 88) [] [])) [.t 9, .t 10]⟩, ⟨some 12, none, .mv (.t 5)⟩, ⟨some 13, none, .call (.c (.f (.func 87) [] [])) [.t 8, .t 11, .t 12]⟩, ⟨some 4, none, .mv (.t 13)⟩]) .ret))⟩
theorem sw79 : QRK Try.prog Try.f79 = some w79 := by kernel_rfl
def w80 : CF := ⟨10, [.cell 2 (some 32)], .seq (.reg 0 [⟨some 2, none, .new true [.i .u8 0, .i .u8 0, .i .u8 0, .i .u8 0, .i .u8 0, .i .u8 0, .i .u8 0, .i .u8 0, .i .u8 0, .i .u8 0, .i .u8 0, .i .u8 0, .i .u8 0, .i .u8 0, .i .u8 0, .i .u8 0, .i .u8 0, .i .u8 0, .i .u8 0, .i .u8 0, .i .u8 0, .i .u8 0, .i .u8 0, .i .u8 0, .i .u8 0, .i .u8 0, .i .u8 0, .i .u8 0, .i .u8 0, .i .u8 0, .i .u8 0, .i .u8 0]⟩]) (.seq (.drw 1 [⟨⟨some 3, none, .sla 32 1 (.t 2) none none none⟩, 0, 4⟩, ⟨⟨some 4, none, .mv (.t 0)⟩, 0, 1⟩, ⟨⟨some 5, none, .mv (.t 0)⟩, 0, 1⟩, ⟨⟨some 6, none, .call (.c (.f (.func 86) [] [])) [.t 5]⟩, 4, 32⟩, ⟨⟨some 7, none, .call (.c (.f (.func 87) [] [])) [.t 4, .c (.i .i64 32), .t 6]⟩, 14, 80⟩, ⟨⟨some 8, none, .cpy false 1 (.t 3) (.t 7)⟩, 31, 136⟩]) (.seq (.reg 2 [⟨some 9, none, .ld (some 32) (.t 2)⟩, ⟨none, none, .st (some 32) (.t 2) (.t 9)⟩]) .ret))⟩
theorem sw80 : QRK Try.prog Try.f80 = some w80 := by kernel_rfl
def w86 : CF := ⟨9, [.t 2], .seq (.reg 0 [⟨some 2, none, .mv (.c (.i .i64 0))⟩]) (.seq (.seq (.reg 1 [⟨some 3, none, .mv (.t 0)⟩, ⟨some 4, none, .call (.c (.f (.func 77) [] [])) [.t 3]⟩]) (.cond (.t 4) (.seq (.reg 2 [⟨some 2, none, .mv (.c (.i .i64 0))⟩]) .ret) .skip)) (.seq (.reg 3 [⟨some 5, none, .mv (.t 0)⟩, ⟨some 6, none, .nck (.t 5)⟩, ⟨some 7, none, .fad 2 (.t 6)⟩, ⟨some 8, none, .ld none (.t 7)⟩, ⟨some 2, none, .mv (.t 8)⟩]) .ret))⟩
theorem sw86 : QRK Try.prog Try.f86 = some w86 := by kernel_rfl
def w87 : CF := ⟨53, [.t 6], .seq (.reg 0 [⟨some 6, none, .mv (.c .ns)⟩]) (.seq (.seq (.reg 1 [⟨some 8, none, .mv (.t 0)⟩, ⟨some 9, none, .call (.c (.f (.func 77) [] [])) [.t 8]⟩]) (.cond (.t 9) (.seq (.reg 2 [⟨some 6, none, .mv (.c .ns)⟩]) .ret) .skip)) (.seq (.seq (.drw 3 [⟨⟨some 10, none, .mv (.t 1)⟩, 0, 2⟩, ⟨⟨some 11, none, .mv (.t 0)⟩, 0, 1⟩, ⟨⟨some 12, none, .nck (.t 11)⟩, 2, 2048⟩, ⟨⟨some 13, none, .fad 1 (.t 12)⟩, 6, 4096⟩, ⟨⟨some 14, none, .ld none (.t 13)⟩, 14, 8192⟩, ⟨⟨some 15, none, .len false (.t 14)⟩, 30, 16384⟩, ⟨⟨some 16, none, .mv (.t 0)⟩, 0, 1⟩, ⟨⟨some 17, none, .nck (.t 16)⟩, 64, 65536⟩, ⟨⟨some 18, none, .fad 2 (.t 17)⟩, 192, 131072⟩, ⟨⟨some 19, none, .ld none (.t 18)⟩, 448, 262144⟩, ⟨⟨some 20, none, .bin .sub (.t 15) (.t 19)⟩, 1022, 557056⟩, ⟨⟨some 21, none, .bin .gtr (.t 10) (.t 20)⟩, 2047, 1049600⟩]) (.cond (.t 21) (.seq (.reg 4 [⟨some 22, none, .mv (.t 0)⟩, ⟨some 23, none, .nck (.t 22)⟩, ⟨some 24, none, .fad 0 (.t 23)⟩, ⟨some 25, none, .ld none (.t 24)⟩, ⟨some 26, none, .mv (.t 2)⟩, ⟨some 27, none, .call (.c (.f (.func 76) [] [])) [.t 25, .c (.i .i64 6), .t 26]⟩]) (.seq (.reg 5 [⟨some 6, none, .mv (.c .ns)⟩]) .ret)) .skip)) (.seq (.drw 6 [⟨⟨some 28, none, .mv (.t 0)⟩, 0, 1⟩, ⟨⟨some 29, none, .nck (.t 28)⟩, 1, 268435456⟩, ⟨⟨some 30, none, .fad 1 (.t 29)⟩, 3, 536870912⟩, ⟨⟨some 31, none, .ld none (.t 30)⟩, 7, 1073741824⟩, ⟨⟨some 32, none, .mv (.t 0)⟩, 0, 1⟩, ⟨⟨some 33, none, .nck (.t 32)⟩, 16, 4294967296⟩, ⟨⟨some 34, none, .fad 2 (.t 33)⟩, 48, 8589934592⟩, ⟨⟨some 35, none, .ld none (.t 34)⟩, 112, 17179869184⟩, ⟨⟨some 36, none, .mv (.t 0)⟩, 0, 1⟩, ⟨⟨some 37, none, .nck (.t 36)⟩, 256, 68719476736⟩, ⟨⟨some 38, none, .fad 2 (.t 37)⟩, 768, 137438953472⟩, ⟨⟨some 39, none, .ld none (.t 38)⟩, 1792, 274877906944⟩, ⟨⟨some 40, none, .mv (.t 1)⟩, 0, 2⟩, ⟨⟨some 41, none, .bin .add (.t 39) (.t 40)⟩, 7936, 1649267441664⟩, ⟨⟨some 42, none, .sll 1 (.t 31) (some (.t 35)) (some (.t 41)) none⟩, 16383, 2235530477568⟩, ⟨⟨some 43, none, .call (.c (.f (.func 59) [] [])) [.t 42]⟩, 32767, 4398046511104⟩, ⟨⟨some 7, none, .mv (.t 43)⟩, 65535, 8796093022208⟩]) (.seq (.reg 7 [⟨some 44, none, .mv (.t 0)⟩, ⟨some 45, none, .nck (.t 44)⟩, ⟨some 46, none, .fad 2 (.t 45)⟩, ⟨some 47, none, .ld none (.t 46)⟩, ⟨some 48, none, .mv (.t 1)⟩, ⟨some 49, none, .bin .add (.t 47) (.t 48)⟩, ⟨some 50, none, .nck (.t 44)⟩, ⟨some 51, none, .fad 2 (.t 50)⟩, ⟨none, none, .st none (.t 51) (.t 49)⟩]) (.seq (.reg 8 [⟨some 52, none, .mv (.t 7)⟩, ⟨some 6, none, .mv (.t 52)⟩]) .ret)))))⟩
theorem sw87 : QRK Try.prog Try.f87 = some w87 := by kernel_rfl
def w88 : CF := ⟨25, [.t 4], .seq (.reg 0 [⟨some 4, none, .mv (.c (.i .i64 0))⟩]) (.seq (.seq (.reg 1 [⟨some 7, none, .mv (.t 0)⟩, ⟨some 8, none, .call (.c (.f (.func 77) [] [])) [.t 7]⟩]) (.cond (.t 8) (.seq (.reg 2 [⟨some 4, none, .mv (.c (.i .i64 0))⟩]) .ret) .skip)) (.seq (.reg 3 [⟨some 9, none, .mv (.t 0)⟩, ⟨some 10, none, .nck (.t 9)⟩, ⟨some 11, none, .fad 2 (.t 10)⟩, ⟨some 12, none, .ld none (.t 11)⟩, ⟨some 5, none, .mv (.t 12)⟩]) (.seq (.reg 4 [⟨some 13, none, .mv (.t 0)⟩, ⟨some 14, none, .call (.c (.f (.func 66) [] [])) [.t 13]⟩, ⟨some 6, none, .mv (.t 14)⟩]) (.seq (.seq (.reg 5 [⟨some 15, none, .mv (.t 6)⟩, ⟨some 16, none, .mv (.t 1)⟩, ⟨some 17, none, .bin .gtr (.t 15) (.t 16)⟩]) (.cond (.t 17) (.reg 6 [⟨some 18, none, .mv (.t 0)⟩, ⟨some 19, none, .nck (.t 18)⟩, ⟨some 20, none, .fad 0 (.t 19)⟩, ⟨some 21, none, .ld none (.t 20)⟩, ⟨some 22, none, .mv (.t 5)⟩, ⟨some 23, none, .call (.c (.f (.func 76) [] [])) [.t 21, .c (.i .i64 4), .t 22]⟩]) .skip)) (.seq (.reg 7 [⟨some 24, none, .mv (.t 6)⟩, ⟨some 4, none, .mv (.t 24)⟩]) .ret)))))⟩
theorem sw88 : QRK Try.prog Try.f88 = some w88 := by kernel_rfl
end Go.Proofs.Ytpoojfnmhnedpaa
end
section
namespace Go.Proofs.Ytpoojfnmhnedpaa
set_option maxRecDepth 100000
set_option maxHeartbeats 4000000
theorem KUB (k : IntKind) (a b : Int) : binV .mul (.i k a) (.i k b) = some (.i k (k.wrap (a * b))) := by simp [binV, binI]
theorem Q7H (k k' : IntKind) (a : Int) (b : Nat) : binV .shr (.i k a) (.i k' (b : Int)) = some (.i k (a.fdiv (2 ^ (min b k.bits)))) := by
 simp only [binV]
 rw [if_neg (by omega), Int.toNat_natCast]
theorem ZY2 : IntKind.bits .i64 = 64 := _root_.id rfl
noncomputable def Zjo : List AV → List AB → Option (AV × List AB)
 | [.i .i64 n], h => some (.i .i64 (XDt n), h)
 | _, _ => none
theorem J7w : Spec Try.prog 78 Zjo := by
 intro args h v h' e
 unfold Zjo at e
 split at e
 ·rename_i n
  cases e
  refine FnAt.c (FnAt.run (by kernel_rfl) (T := ⟨[], []⟩) ⟨trivial, trivial⟩ Try.func78 sw78 fun ho hh => ?_)
  unfold w78
  by_cases g1 : n < 192
  ·have g1' := eq_true g1
   have hr : XDt n = 0 := by unfold XDt; rw [if_pos g1]
   simp only [Qfy, Q7I, qe2, qur, X6x, simprocAttr, CO.tmps, Opd.tmps, optT, Nat.reducePow, Nat.reduceDiv, Nat.reduceMod, g1']
   rw [hr]
   exact Bt.drop _ hh rfl rfl
  ·have g1' := eq_false g1
   have hr : XDt n = JmT 7 n 1 := by unfold XDt; rw [if_neg g1]
   simp only [Qfy, Q7I, qe2, qur, X6x, simprocAttr, CO.tmps, Opd.tmps, optT, Nat.reducePow, Nat.reduceDiv, Nat.reduceMod, g1']
   refine QSO (S := Nat) (fun k => 8 - k) (fun k => [.i .i64 n] ++ tp 1 ++ [.i .i64 0, .i .i64 k] ++ tp 14) (fun _ => h) (fun k => 1 ≤ k ∧ k ≤ 8 ∧ JmT 7 n 1 = JmT (8 - k) n k) 1 ⟨Nat.le_refl _, by decide, rfl⟩ (by rw [List.append_nil]; exact Bt.wk (by simp only [qe2, X6x, simprocAttr])) fun k hk => ?_
   obtain ⟨k1, k8, ks⟩ := hk
   by_cases g2 : k < 8
   ·have g2' : ((k : Int) < 8) = True := eq_true (by omega)
    have e1 : IntKind.i64.wrap (8 * (k : Int)) = ((8 * k : Nat) : Int) := by rw [Int.natCast_mul]; exact zdT (by unfold In64; omega)
    have e2 : IntKind.i64.wrap ((k : Int) + 1) = ((k + 1 : Nat) : Int) := zdT (by unfold In64; omega)
    have e3 : min (8 * k) 64 = 8 * k := by omega
    have e4 : (((8 * k : Nat) : Int) < 0) = False := eq_false (by omega)
    have e5 : Int.fdiv n (2 ^ (8 * k)) = n / 2 ^ (8 * k) := Int.fdiv_eq_ediv_of_nonneg _ (Int.le_of_lt (Int.pow_pos (by decide)))
    have ss : JmT (8 - k) n k = if 0 < n / 2 ^ (8 * k) then JmT (8 - (k + 1)) n (k + 1) else k := by
     rw [show 8 - k = (8 - (k + 1)) + 1 by omega]
     rfl
    by_cases g3 : 0 < n / 2 ^ (8 * k)
    ·have g3' := eq_true g3
     simp only [qe2, qur, X6x, simprocAttr, CO.tmps, Opd.tmps, optT, Nat.reducePow, Nat.reduceDiv, Nat.reduceMod, g2', e1, e2, e3, e4, e5, g3', KUB, Q7H, ZY2]
     exact ⟨k + 1, ⟨by omega, by omega, by rw [ks, ss, if_pos g3]⟩, by dsimp only; omega, Bt.wk (by simp only [qe2, X6x, simprocAttr])⟩
    ·have g3' := eq_false g3
     simp only [qe2, qur, X6x, simprocAttr, CO.tmps, Opd.tmps, optT, Nat.reducePow, Nat.reduceDiv, Nat.reduceMod, g2', e1, e2, e3, e4, e5, g3', KUB, Q7H, ZY2]
     rw [hr, ks, ss, if_neg g3]
     exact Bt.wk (by simp only [qe2, X6x, simprocAttr])
   ·have g2' : ((k : Int) < 8) = False := eq_false (by omega)
    simp only [qe2, qur, X6x, simprocAttr, CO.tmps, Opd.tmps, optT, Nat.reducePow, Nat.reduceDiv, Nat.reduceMod, g2']
    have : k = 8 := by omega
    subst this
    rw [hr, ks]
    exact Bt.wk (by simp only [qe2, X6x, simprocAttr, JmT])
 ·cases e
end Go.Proofs.Ytpoojfnmhnedpaa
end
section
namespace Go.Proofs.Ytpoojfnmhnedpaa
set_option maxRecDepth 100000
set_option maxHeartbeats 4000000
def YAu : List AV → List AB → Option (AV × List AB)
 | [.p j 0], h => match qhl h j with
   | some [.i .i64 e, .i .i64 _] => some (.b (decide (¬ e = 0)), h)
   | _ => none
 | _, _ => none
theorem YgM : Spec Try.prog 58 YAu := by
 intro args h v h' e
 unfold YAu at e
 split at e
 ·rename_i j
  split at e
  ·rename_i er a hb
   cases e
   refine FnAt.c (FnAt.run (by kernel_rfl) (T := ⟨[], []⟩) ⟨trivial, trivial⟩ Try.func58 sw58 fun ho hh => ?_)
   have f1 := zW9 hb
   unfold w58
   simp only [Qfy, Q7I, qe2, qur, X6x, simprocAttr, CO.tmps, Opd.tmps, optT, Nat.reducePow, Nat.reduceDiv, Nat.reduceMod, f1, List.getElem?_cons_zero]
   exact Bt.dropB _ hh rfl
  ·cases e
 ·cases e
theorem zBI (i o : Nat) : K2G (.p i o) .np = some false := _root_.id rfl
def KOW : List AV → List AB → Option (AV × List AB)
 | [.p i 0], h => match qhl h i with
   | some [.p j 0, _, _] => match qhl h j with
    | some [.i .i64 e, .i .i64 _] => some (.b (decide (¬ e = 0)), h)
    | _ => none
   | _ => none
 | _, _ => none
theorem QTk : Spec Try.prog 77 KOW := by
 intro args h v h' e
 unfold KOW at e
 split at e
 ·rename_i i
  split at e
  ·rename_i j s p hb
   split at e
   ·rename_i er a hc
    cases e
    refine FnAt.c (FnAt.run (by kernel_rfl) (T := ⟨[⟨58, YAu, fun _ => []⟩], []⟩) ⟨⟨YgM, trivial⟩, trivial⟩ Try.func77 sw77 fun ho hh => ?_)
    have f1 := zW9 hb
    have f2 := zW9 hc
    unfold w77
    simp only [Qfy, Q7I, qe2, qur, X6x, simprocAttr, CO.tmps, Opd.tmps, optT, Nat.reducePow, Nat.reduceDiv, Nat.reduceMod, f1, f2, YAu, zBI, List.getElem?_cons_zero, List.getElem?_cons_succ]
    exact Bt.dropB _ hh rfl
   ·cases e
  ·cases e
 ·cases e
end Go.Proofs.Ytpoojfnmhnedpaa
end
section
namespace Go.Proofs.Ytpoojfnmhnedpaa
set_option maxRecDepth 100000
set_option maxHeartbeats 4000000
theorem QYl {h : List AB} {i : Nat} {fl : Bool} {cells : List AV} (hi : h[i]? = some (.blk fl true cells)) {o : Nat} {vs : List AV} (ho : o + vs.length ≤ cells.length) (hw : vs.all (wrOk fl) = true) (x : List AB) : stV (h ++ x) (some vs.length) (.p i o) (.ag vs) = some (h.set i (.blk fl true (over cells o vs)) ++ x) := by
 have hlt := (List.getElem?_eq_some_iff.1 hi).1
 simp only [stV, if_true, stB]
 rw [List.getElem?_append_left hlt, hi]
 dsimp only
 rw [if_pos ⟨ho, hw⟩, List.set_append_left _ _ hlt]
theorem JvT {h : List AB} (hh : HOk h) (id : Nat) {B : AB} (hB : ∀ q, B.ok q = true) : HOk (h.set id B) := fun i C hC => by
 rw [List.length_set]
 rw [List.getElem?_set] at hC
 split at hC
 ·split at hC
  ·cases hC
   exact hB _
  ·cases hC
 ·exact hh i C hC
theorem Bt.dropS {P : Program} {h : List AB} {j : Nat} {B : AB} {v a : AV} (L : List AB) (hh : HOk h) (hB : ∀ q, B.ok q = true) (e : v = a) (hok : v.ok (fun i => decide (i < h.length)) = true) : Bt P h.length [v] (h.set j B ++ L) [a] (h.set j B) := by
 have := Bt.drop (P := P) (h := h.set j B) (v := v) (a := a) L (JvT hh j hB) e (by rw [List.length_set]; exact hok)
 rwa [List.length_set] at this
noncomputable def qkr : List AV → List AB → Option (AV × List AB)
 | [.p j 0, .i .i64 e, .i .i64 at0], h => match h[j]? with
   | some (.blk true true [.i .i64 er, .i .i64 _]) => some (.tu [], if er = 0 then h.set j (.blk true true [.i .i64 e, .i .i64 at0]) else h)
   | _ => none
 | _, _ => none
theorem q0q : Spec Try.prog 76 qkr := by
 intro args h v h' e
 unfold qkr at e
 split at e
 ·rename_i j er at0
  split at e
  ·rename_i e0 a0 hj
   cases e
   have hb : qhl h j = some [.i .i64 e0, .i .i64 a0] := by unfold qhl; rw [hj]
   have q : ∀ x, stV (h ++ x) (some 2) (.p j 0) (.ag [.i .i64 er, .i .i64 at0]) = some (h.set j (.blk true true [.i .i64 er, .i .i64 at0]) ++ x) := fun x => QYl hj (o := 0) (vs := [.i .i64 er, .i .i64 at0]) (Nat.le_refl 2) rfl x
   refine FnAt.c (FnAt.run (by kernel_rfl) (T := ⟨[], []⟩) ⟨trivial, trivial⟩ Try.func76 sw76 fun ho hh => ?_)
   have f1 := zW9 hb
   unfold w76
   by_cases g : e0 = 0
   ·have g' := eq_true g
    simp only [Qfy, Q7I, qe2, qur, X6x, simprocAttr, CO.tmps, Opd.tmps, optT, Nat.reducePow, Nat.reduceDiv, Nat.reduceMod, f1, g', List.getElem?_cons_zero, q]
    exact Bt.dropS [] hh (fun _ => rfl) rfl rfl
   ·have g' := eq_false g
    simp only [Qfy, Q7I, qe2, qur, X6x, simprocAttr, CO.tmps, Opd.tmps, optT, Nat.reducePow, Nat.reduceDiv, Nat.reduceMod, f1, g', List.getElem?_cons_zero]
    exact Bt.drop _ hh rfl rfl
  ·cases e
 ·cases e
end Go.Proofs.Ytpoojfnmhnedpaa
end
section
namespace Go.Proofs.Ytpoojfnmhnedpaa
set_option maxRecDepth 100000
set_option maxHeartbeats 4000000
def rdr (h : List AB) (i : Nat) : Option (Nat × AV × Int × Int × Int) := match h[i]? with
 | some (.blk false _ [.p j 0, s, .i .i64 p]) => match qhl h j with
  | some [.i .i64 e, .i .i64 a] => some (j, s, p, e, a)
  | _ => none
 | _ => none
theorem QxK {h : List AB} {i j : Nat} {s : AV} {p e a : Int} (q : rdr h i = some (j, s, p, e, a)) : (∃ m, h[i]? = some (.blk false m [.p j 0, s, .i .i64 p])) ∧ qhl h j = some [.i .i64 e, .i .i64 a] := by
 unfold rdr at q
 split at q
 ·rename_i hb
  split at q
  ·rename_i hc
   simp only [Option.some.injEq, Prod.mk.injEq] at q
   obtain ⟨rfl, rfl, rfl, rfl, rfl⟩ := q
   exact ⟨⟨_, hb⟩, hc⟩
  ·cases q
 ·cases q
theorem q9v {β : Type} {h : List AB} {i : Nat} {f : Nat × AV × Int × Int × Int → Option β} {b : β} (q : (rdr h i).bind f = some b) : ∃ j s p e a, (∃ m, h[i]? = some (.blk false m [.p j 0, s, .i .i64 p])) ∧ qhl h i = some [.p j 0, s, .i .i64 p] ∧ qhl h j = some [.i .i64 e, .i .i64 a] ∧ f (j, s, p, e, a) = some b := by
 obtain ⟨⟨j, s, p, e, a⟩, h1, h2⟩ := Option.bind_eq_some_iff.1 q
 obtain ⟨⟨m, hm⟩, hc⟩ := QxK h1
 exact ⟨j, s, p, e, a, ⟨m, hm⟩, by unfold qhl; rw [hm], hc, h2⟩
theorem ZqH {h : List AB} (hh : HOk h) {i j : Nat} {s : AV} {p : Int} {m : Bool} (q : h[i]? = some (.blk false m [.p j 0, s, .i .i64 p])) : s.ok (fun k => decide (k < h.length)) = true := by
 have := hh i _ q
 simp only [AB.ok, Z3W, Bool.and_eq_true] at this
 exact this.2.1
def ZZC : List AV → List AB → Option (AV × List AB)
 | [.p i 0], h => (rdr h i).bind fun x => some (.i .i64 (if x.2.2.2.1 = 0 then x.2.2.1 else 0), h)
 | _, _ => none
theorem qXO : Spec Try.prog 86 ZZC := by
 intro args h v h' e
 unfold ZZC at e
 split at e
 ·rename_i i
  obtain ⟨j, s, p, er, a, ⟨m, hi⟩, hb, hc, e⟩ := q9v e
  cases e
  refine FnAt.c (FnAt.run (by kernel_rfl) (T := ⟨[⟨77, KOW, fun _ => []⟩], []⟩) ⟨⟨QTk, trivial⟩, trivial⟩ Try.func86 sw86 fun ho hh => ?_)
  have f1 := zW9 hb
  have f2 := zW9 hc
  unfold w86
  by_cases g : er = 0
  ·have g' := eq_true g
   simp only [Qfy, Q7I, qe2, qur, X6x, simprocAttr, CO.tmps, Opd.tmps, optT, Nat.reducePow, Nat.reduceDiv, Nat.reduceMod, f1, f2, g', KOW, zBI, List.getElem?_cons_zero, List.getElem?_cons_succ]
   exact Bt.drop _ hh rfl rfl
  ·have g' := eq_false g
   simp only [Qfy, Q7I, qe2, qur, X6x, simprocAttr, CO.tmps, Opd.tmps, optT, Nat.reducePow, Nat.reduceDiv, Nat.reduceMod, f1, f2, g', KOW, zBI, List.getElem?_cons_zero, List.getElem?_cons_succ]
   exact Bt.drop _ hh rfl rfl
 ·cases e
noncomputable def XAW : List AV → List AB → Option (AV × List AB)
 | [.p i 0], h => (rdr h i).bind fun x => (getS XQp h x.2.1).bind fun bs => if 0 ≤ x.2.2.1 ∧ x.2.2.1 ≤ bs.length then some (.i .i64 (Ynt bs ⟨x.2.2.1.toNat, x.2.2.2.1, x.2.2.2.2⟩), h) else none
 | _, _ => none
theorem Kvg : Spec Try.prog 69 XAW := by
 intro args h v h' e
 unfold XAW at e
 split at e
 ·rename_i i
  obtain ⟨j, s, p, er, a, ⟨m, hi⟩, hb, hc, e⟩ := q9v e
  dsimp only at e
  obtain ⟨bs, hs, e⟩ := Kra e
  split at e
  ·rename_i hp
   cases e
   obtain ⟨n, rfl⟩ := Int.eq_ofNat_of_zero_le hp.1
   refine FnAt.c (FnAt.run (by kernel_rfl) (T := ⟨[⟨77, KOW, fun _ => []⟩], []⟩) ⟨⟨QTk, trivial⟩, trivial⟩ Try.func69 sw69 fun ho hh => ?_)
   have f1 := zW9 hb
   have f2 := zW9 hc
   have f3 := hs.fx (ZqH hh hi) (sz := 1) rfl
   have hm := hs.2
   unfold w69
   by_cases g : er = 0
   ·have g' := eq_true g
    have e1 : IntKind.i64.wrap ((bs.length : Int) - (n : Int)) = (bs.length : Int) - n := zdT (by unfold maxLen at hm; unfold In64; omega)
    have hr : Ynt bs ⟨n, er, a⟩ = (bs.length : Int) - n := by unfold Ynt; rw [if_pos g]
    simp only [Qfy, Q7I, qe2, qur, X6x, simprocAttr, CO.tmps, Opd.tmps, optT, Nat.reducePow, Nat.reduceDiv, Nat.reduceMod, f1, f2, g', f3, KOW, zBI, e1, List.getElem?_cons_zero, List.getElem?_cons_succ]
    exact Bt.drop _ hh (congrArg (AV.i .i64) hr.symm) rfl
   ·have g' := eq_false g
    have hr : Ynt bs ⟨n, er, a⟩ = 0 := by unfold Ynt; rw [if_neg g]
    simp only [Qfy, Q7I, qe2, qur, X6x, simprocAttr, CO.tmps, Opd.tmps, optT, Nat.reducePow, Nat.reduceDiv, Nat.reduceMod, f1, f2, g', f3, KOW, zBI, List.getElem?_cons_zero, List.getElem?_cons_succ]
    exact Bt.drop _ hh (congrArg (AV.i .i64) hr.symm) rfl
  ·cases e
 ·cases e
end Go.Proofs.Ytpoojfnmhnedpaa
end
section
namespace Go.Proofs.Ytpoojfnmhnedpaa
set_option maxRecDepth 100000
set_option maxHeartbeats 4000000
theorem ZTo {h : List AB} {i : Nat} {xs : List AV} (e : qhl h i = some xs) : qhl (h.map AB.freeze) i = some xs := by
 unfold qhl at e ⊢
 rw [List.getElem?_map]
 cases hB : h[i]? with
 | none => rw [hB] at e; cases e
 | some B =>
  rw [hB] at e
  cases B <;> first | (cases e; done) | exact e
noncomputable def zLd : List AV → List AB → Option (AV × List AB)
 | [.p i 0], h => (rdr h i).bind fun x => (getS XQp h x.2.1).bind fun bs => if 0 ≤ x.2.2.1 ∧ x.2.2.1 ≤ bs.length then some (.ag [.i .i64 (ZkG bs ⟨x.2.2.1.toNat, x.2.2.2.1, x.2.2.2.2⟩).1, .i .i64 (ZkG bs ⟨x.2.2.1.toNat, x.2.2.2.1, x.2.2.2.2⟩).2], h) else none
 | _, _ => none
theorem K4B : Spec Try.prog 71 zLd := by
 intro args h v h' e
 unfold zLd at e
 split at e
 ·rename_i i
  obtain ⟨j, s, p, er, a, ⟨m, hi⟩, hb, hc, e⟩ := q9v e
  dsimp only at e
  obtain ⟨bs, hs, e⟩ := Kra e
  split at e
  ·rename_i hp
   cases e
   obtain ⟨n, rfl⟩ := Int.eq_ofNat_of_zero_le hp.1
   refine FnAt.c (FnAt.frz0 fun hz => ?_)
   replace hb := ZTo hb
   replace hc := ZTo hc
   replace hs := hs.frz
   replace hi : (h.map AB.freeze)[i]? = some (.blk false false [.p j 0, s, .i .i64 (n : Int)]) := by rw [List.getElem?_map, hi]; rfl
   generalize h.map AB.freeze = h at *
   refine (FnAt.run (by kernel_rfl) (T := ⟨[⟨58, YAu, fun _ => []⟩], []⟩) ⟨⟨YgM, trivial⟩, trivial⟩ Try.func71 sw71 fun ho hh => ?_)
   have f1 := zW9 hb
   have f2 := zW9 hc
   have f3 := hs.fx (ZqH hh hi) (sz := 1) rfl
   have hn : ((n : Int)).toNat = n := Int.toNat_natCast n
   unfold w71
   by_cases g : er = 0
   ·have g' := eq_true g
    by_cases q : n < bs.length
    ·have q' : ((n : Int) < (bs.length : Int)) = True := eq_true (by omega)
     have q2 := eq_true q
     have hr : ZkG bs ⟨n, er, a⟩ = (4, (n : Int)) := by unfold ZkG; rw [if_pos ⟨g, q⟩]
     simp only [hn, hr, Qfy, Q7I, qe2, qur, X6x, simprocAttr, CO.tmps, Opd.tmps, optT, Nat.reducePow, Nat.reduceDiv, Nat.reduceMod, f1, f2, f3, g', q', q2, YAu, zDt hh, qwE hz, ZqV hz, zhe hz, zBI, List.getElem?_cons_zero, List.getElem?_cons_succ, ne_eq, not_true_eq_false, decide_true, decide_false]
     exact Bt.drop _ hh rfl (by simp only [YwG, Z3W, Kt4, ok_i, Bool.and_true])
    ·have q' : ((n : Int) < (bs.length : Int)) = False := eq_false (by omega)
     have q2 := eq_false q
     have hr : ZkG bs ⟨n, er, a⟩ = (er, a) := by unfold ZkG; rw [if_neg fun z => q z.2]
     simp only [hn, hr, Qfy, Q7I, qe2, qur, X6x, simprocAttr, CO.tmps, Opd.tmps, optT, Nat.reducePow, Nat.reduceDiv, Nat.reduceMod, f1, f2, f3, g', q', q2, YAu, zDt hh, qwE hz, ZqV hz, zhe hz, zBI, List.getElem?_cons_zero, List.getElem?_cons_succ, ne_eq, not_true_eq_false, decide_true, decide_false]
     exact Bt.drop _ hh rfl (by simp only [YwG, Z3W, Kt4, ok_i, Bool.and_true])
   ·have g' := eq_false g
    have hr : ZkG bs ⟨n, er, a⟩ = (er, a) := by unfold ZkG; rw [if_neg fun z => g z.1]
    simp only [hn, hr, Qfy, Q7I, qe2, qur, X6x, simprocAttr, CO.tmps, Opd.tmps, optT, Nat.reducePow, Nat.reduceDiv, Nat.reduceMod, f1, f2, f3, g', YAu, zDt hh, qwE hz, ZqV hz, zhe hz, zBI, List.getElem?_cons_zero, List.getElem?_cons_succ, ne_eq, not_false_eq_true, decide_true, decide_false]
    exact Bt.drop _ hh rfl (by simp only [YwG, Z3W, Kt4, ok_i, Bool.and_true])
  ·cases e
 ·cases e
end Go.Proofs.Ytpoojfnmhnedpaa
end
section
namespace Go.Proofs.Ytpoojfnmhnedpaa
set_option maxRecDepth 100000
set_option maxHeartbeats 4000000
theorem qtp (l : List UInt8) : (XQp.cells l).all (wrOk true) = true := by
 rw [Kbg, List.all_eq_true]
 intro a h
 obtain ⟨b, _, rfl⟩ := List.mem_map.1 h
 rfl
noncomputable def ZsH : List AV → List AB → Option (AV × List AB)
 | [a], h => (getS XQp h a).bind fun xs => if xs.length ≤ 1000000 then some (rsl XQp h.length xs, h ++ [resB XQp true xs]) else none
 | _, _ => none
theorem KkV (h : List AB) (xs : List UInt8) (h0 : xs.length = 0) : FnC Try.prog 59 [.se] h (rsl XQp h.length xs) (h ++ [resB XQp true xs]) := by
 refine FnAt.c (FnAt.run (by kernel_rfl) (T := ⟨[], []⟩) ⟨trivial, trivial⟩ Try.func59 sw59 fun ho hh => ?_)
 have fs : ∀ x : List AB, srcV (h ++ x) 1 .se = some (0, []) := fun _ => rfl
 unfold w59
 simp only [Qfy, Q7I, qe2, X6x, simprocAttr, fs, qtp]
 exact Bt.one 0 hh (fun _ => Wk.empty _ _ _ _ _ _) (by simp) (fun h => absurd h0 h)
theorem zAU (h : List AB) (xs : List UInt8) (h0 : xs.length = 0) : FnC Try.prog 59 [.ns] h (rsl XQp h.length xs) (h ++ [resB XQp true xs]) := by
 refine FnAt.c (FnAt.run (by kernel_rfl) (T := ⟨[], []⟩) ⟨trivial, trivial⟩ Try.func59 sw59 fun ho hh => ?_)
 unfold w59
 simp only [Qfy, Q7I, qe2, X6x, simprocAttr]
 exact Bt.one0 h0 (Wk.nil _ _)
theorem QwR : Spec Try.prog 59 ZsH := by
 intro args h v h' e
 unfold ZsH at e
 split at e
 ·rename_i a
  obtain ⟨xs, ha, e⟩ := Kra e
  split at e
  ·rename_i hl
   cases e
   by_cases hk : ∃ id off cap, a = .sl id off 0 cap (some 0)
   ·obtain ⟨id, off, cap, rfl⟩ := hk
    have h0 : xs.length = 0 := by have := ha.len; simp only [lenV, Option.some.injEq] at this; omega
    exact FnC.empty1 (zAU h xs h0) (KkV h xs h0)
   have hs := ha.isSl
   have hlen := ha.len
   cases a <;> first | (cases hs; done) | skip
   ·rename_i id off len cap k
    have hq : K2G (.sl id off len cap k) .ns = some false := by
     rw [YCF, if_neg]
     rintro ⟨rfl, rfl⟩
     exact hk ⟨_, _, _, rfl⟩
    refine FnAt.c (FnAt.run (by kernel_rfl) (T := ⟨[], []⟩) ⟨trivial, trivial⟩ Try.func59 sw59 fun ho hh => ?_)
    simp only [Z3W, Bool.and_eq_true] at ho
    have fa := ha.fx ho.1 (sz := 1) rfl
    have fs := ha.src (sz := 1) rfl
    unfold w59
    by_cases h0 : xs.length = 0
    ·simp only [Qfy, Q7I, qe2, X6x, simprocAttr, fa, fs, h0, hq, qtp]
     exact Bt.one 0 hh (fun _ => Wk.empty _ _ _ _ _ _) (by simp) (fun h => absurd h0 h)
    ·simp only [Qfy, Q7I, qe2, X6x, simprocAttr, fa, fs, h0, hq, qtp]
     exact ⟨⟨by omega, by unfold maxLen; omega⟩, Bt.one 1 hh (fun h => absurd h h0) (by simp) (fun _ => ⟨rfl, rfl⟩)⟩
   ·exact KkV h xs (by simp only [lenV, Option.some.injEq] at hlen; omega)
   ·exact zAU h xs (by simp only [lenV, Option.some.injEq] at hlen; omega)
  ·cases e
 ·cases e
noncomputable def Qor : List AV → List AB → Option (AV × List AB)
 | [a], h => (getS XQp h a).bind fun xs => if xs.length ≤ 1000000 then some (.p h.length 0, h ++ [.blk false true [.p (h.length + 1) 0, rsl XQp (h.length + 2) xs, .i .i64 0], .blk true true [.i .i64 0, .i .i64 0], resB XQp true xs]) else none
 | _, _ => none
theorem X2t : Spec Try.prog 49 Qor := by
 intro args h v h' e
 unfold Qor at e
 split at e
 ·rename_i a
  obtain ⟨xs, ha, e⟩ := Kra e
  split at e
  ·rename_i hl
   cases e
   refine FnAt.c (FnAt.frz fun hz => ?_)
   rw [show h.length = (h.map AB.freeze).length from (List.length_map _).symm]
   replace ha := ha.frz
   generalize h.map AB.freeze = h at *
   refine FnAt.run (by kernel_rfl) (T := ⟨[⟨59, ZsH, fun _ => []⟩], []⟩) ⟨⟨QwR, trivial⟩, trivial⟩ Try.func49 sw49 fun ho hh => ?_
   simp only [Z3W, Bool.and_eq_true] at ho
   have fa := ha.fx ho.1 (sz := 1) rfl
   have l1 := eq_true hl
   unfold w49
   simp only [Qfy, Q7I, qe2, qur, X6x, simprocAttr, CO.tmps, Opd.tmps, optT, Nat.reducePow, Nat.reduceDiv, Nat.reduceMod, fa, l1, ZsH, zDt hh, qwE hz, ZqV hz, zhe hz]
   exact Bt.sel [2, 0, 1] hh (by decide) (by simp only [XQy, FrSel, BlkSel, AV.ren, renL, AV.ok, okL, Option.some.injEq, exists_eq_left', List.length_cons, List.length_nil, Nat.reduceAdd, Nat.reduceLT, reduceCtorEq, implies_true, exists_eq', XPY, YTs]) (by simp only [XQy, FrSel, BlkSel, AV.ren, renL, AV.ok, okL, Option.some.injEq, exists_eq_left', List.length_cons, List.length_nil, Nat.reduceAdd, Nat.reduceLT, reduceCtorEq, implies_true, exists_eq'])
  ·cases e
 ·cases e
end Go.Proofs.Ytpoojfnmhnedpaa
end
