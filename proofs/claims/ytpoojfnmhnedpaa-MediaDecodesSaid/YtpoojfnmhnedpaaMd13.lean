/- Part 13 of what the laws' proofs rest on. No condition. -/
import Derived.Test.YtpoojfnmhnedpaaMd12
set_option linter.all false
section
namespace Go.Proofs.Ytpoojfnmhnedpaa
set_option maxRecDepth 100000
def w74 : CF := ⟨17, [.cell 2 (some 35)], .seq (.reg 0 [⟨some 2, none, .new true [.i .i64 0, .i .u8 0, .i .u8 0, .i .u8 0, .i .u8 0, .i .u8 0, .i .u8 0, .i .u8 0, .i .u8 0, .i .u8 0, .i .u8 0, .i .u8 0, .i .u8 0, .i .u8 0, .i .u8 0, .i .u8 0, .i .u8 0, .i .u8 0, .i .u8 0, .i .u8 0, .i .u8 0, .i .u8 0, .i .u8 0, .i .u8 0, .i .u8 0, .i .u8 0, .i .u8 0, .i .u8 0, .i .u8 0, .i .u8 0, .i .u8 0, .i .u8 0, .i .u8 0, .i .i64 0, .s []]⟩]) (.seq (.reg 1 [⟨some 3, none, .new true [.i .i64 0, .i .u8 0, .i .u8 0, .i .u8 0, .i .u8 0, .i .u8 0, .i .u8 0, .i .u8 0, .i .u8 0, .i .u8 0, .i .u8 0, .i .u8 0, .i .u8 0, .i .u8 0, .i .u8 0, .i .u8 0, .i .u8 0, .i .u8 0, .i .u8 0, .i .u8 0, .i .u8 0, .i .u8 0, .i .u8 0, .i .u8 0, .i .u8 0, .i .u8 0, .i .u8 0, .i .u8 0, .i .u8 0, .i .u8 0, .i .u8 0, .i .u8 0, .i .u8 0, .i .i64 0, .s []]⟩]) (.seq (.reg 2 [⟨some 4, none, .mv (.t 0)⟩, ⟨some 5, none, .call (.c (.f (.func 72) [] [])) [.t 4]⟩, ⟨some 6, none, .fad 0 (.t 3)⟩, ⟨none, none, .st none (.t 6) (.t 5)⟩]) (.seq (.reg 3 [⟨some 7, none, .mv (.t 0)⟩, ⟨some 8, none, .call (.c (.f (.func 83) [] [])) [.t 7]⟩, ⟨some 9, none, .fad 1 (.t 3)⟩, ⟨none, none, .st (some 32) (.t 9) (.t 8)⟩]) (.seq (.reg 4 [⟨some 10, none, .mv (.t 0)⟩, ⟨some 11, none, .call (.c (.f (.func 72) [] [])) [.t 10]⟩, ⟨some 12, none, .fad 33 (.t 3)⟩, ⟨none, none, .st none (.t 12) (.t 11)⟩]) (.seq (.reg 5 [⟨some 13, none, .mv (.t 0)⟩, ⟨some 14, none, .call (.c (.f (.func 73) [] [])) [.t 13, .c (.i .i64 4096)]⟩, ⟨some 15, none, .fad 34 (.t 3)⟩, ⟨none, none, .st none (.t 15) (.t 14)⟩]) (.seq (.reg 6 [⟨some 16, none, .ld (some 35) (.t 3)⟩, ⟨none, none, .st (some 35) (.t 2) (.t 16)⟩]) .ret))))))⟩
theorem sw74 : zGn Try.prog Try.f74 = some w74 := by kernel_rfl
def w75 : CF := ⟨157, [.t 4, .t 5], .seq (.reg 0 [⟨some 4, none, .mv (.c .ns)⟩, ⟨some 5, none, .mv (.c (.b false))⟩]) (.seq (.seq (.reg 1 [⟨some 17, none, .mv (.t 1)⟩]) (.block 0 (.seq (.reg 2 [⟨some 18, none, .tas (.t 17) 3 true (.i .i64 0)⟩, ⟨some 19, none, .ext (.t 18) 1⟩, ⟨some 20, none, .ext (.t 18) 0⟩]) (.cond (.t 19) (.seq (.reg 3 [⟨some 6, none, .mv (.t 20)⟩]) (.seq (.reg 4 [⟨some 21, none, .mv (.t 6)⟩, ⟨some 22, none, .call (.c (.f (.func 78) [] [])) [.t 21]⟩, ⟨some 7, none, .mv (.t 22)⟩]) (.seq (.seq (.reg 5 [⟨some 23, none, .mv (.t 7)⟩, ⟨some 24, none, .bin .eql (.t 23) (.c (.i .i64 0))⟩]) (.cond (.t 24) (.seq (.reg 6 [⟨some 25, none, .mv (.t 0)⟩, ⟨some 26, none, .mv (.t 6)⟩, ⟨some 27, none, .cvi .u8 (.t 26)⟩, ⟨some 28, none, .bls true 1 [.i .u8 0] [(0, 1, .t 27)]⟩, ⟨some 29, none, .app false true 1 1 (.t 25) (.t 28)⟩, ⟨some 30, none, .mv (.t 6)⟩, ⟨some 31, none, .bin .geq (.t 30) (.c (.i .i64 0))⟩, ⟨some 4, none, .mv (.t 29)⟩, ⟨some 5, none, .mv (.t 31)⟩]) .ret) .skip)) (.seq (.reg 7 [⟨some 32, none, .mv (.t 0)⟩, ⟨some 33, none, .mv (.t 7)⟩, ⟨some 34, none, .bin .add (.c (.i .i64 191)) (.t 33)⟩, ⟨some 35, none, .cvi .u8 (.t 34)⟩, ⟨some 36, none, .bls true 1 [.i .u8 0] [(0, 1, .t 35)]⟩, ⟨some 37, none, .app false true 1 1 (.t 32) (.t 36)⟩, ⟨some 0, none, .mv (.t 37)⟩]) (.seq (.seq (.reg 8 [⟨some 38, none, .mv (.t 7)⟩, ⟨some 39, none, .mv (.c (.i .i64 0))⟩]) (.block 1 (.loop (.seq (.reg 9 [⟨some 40, none, .bin .lss (.t 39) (.t 38)⟩]) (.seq (.cond (.t 40) .skip (.exit 1)) (.seq (.block 2 (.seq (.reg 10 [⟨some 41, none, .mv (.t 39)⟩, ⟨some 8, none, .mv (.t 41)⟩]) (.reg 11 [⟨some 42, none, .mv (.t 0)⟩, ⟨some 43, none, .mv (.t 6)⟩, ⟨some 44, none, .mv (.t 7)⟩, ⟨some 45, none, .bin .sub (.t 44) (.c (.i .i64 1))⟩, ⟨some 46, none, .mv (.t 8)⟩, ⟨some 47, none, .bin .sub (.t 45) (.t 46)⟩, ⟨some 48, none, .bin .mul (.c (.i .i64 8)) (.t 47)⟩, ⟨some 49, none, .bin .shr (.t 43) (.t 48)⟩, ⟨some 50, none, .cvi .u8 (.t 49)⟩, ⟨some 51, none, .bls true 1 [.i .u8 0] [(0, 1, .t 50)]⟩, ⟨some 52, none, .app false true 1 1 (.t 42) (.t 51)⟩, ⟨some 0, none, .mv (.t 52)⟩]))) (.reg 12 [⟨some 53, none, .bin .add (.t 39) (.c (.i .i64 1))⟩, ⟨some 39, none, .mv (.t 53)⟩]))))))) (.seq (.reg 13 [⟨some 54, none, .mv (.t 0)⟩, ⟨some 4, none, .mv (.t 54)⟩, ⟨some 5, none, .mv (.c (.b true))⟩]) .ret)))))) (.seq (.reg 14 [⟨some 55, none, .tas (.t 17) 9 true (.s [])⟩, ⟨some 56, none, .ext (.t 55) 1⟩, ⟨some 57, none, .ext (.t 55) 0⟩]) (.cond (.t 56) (.seq (.reg 15 [⟨some 9, none, .mv (.t 57)⟩]) (.seq (.reg 16 [⟨some 59, none, .mv (.t 0)⟩, ⟨some 60, none, .mv (.t 9)⟩, ⟨some 61, none, .len true (.t 60)⟩, ⟨some 62, none, .ifc 3 (.t 61)⟩, ⟨some 63, none, .call (.c (.f (.func 75) [] [])) [.t 59, .t 62]⟩, ⟨some 58, none, .mv (.t 63)⟩, ⟨some 64, none, .ext (.t 58) 0⟩, ⟨some 65, none, .ext (.t 58) 1⟩, ⟨some 0, none, .mv (.t 64)⟩]) (.seq (.reg 17 [⟨some 66, none, .mv (.t 0)⟩, ⟨some 67, none, .mv (.t 9)⟩, ⟨some 68, none, .app true true 1 1 (.t 66) (.t 67)⟩, ⟨some 4, none, .mv (.t 68)⟩, ⟨some 5, none, .mv (.c (.b true))⟩]) .ret))) (.seq (.reg 18 [⟨some 69, none, .tas (.t 17) 32 true .ns⟩, ⟨some 70, none, .ext (.t 69) 1⟩, ⟨some 71, none, .ext (.t 69) 0⟩]) (.cond (.t 70) (.seq (.reg 19 [⟨some 10, none, .mv (.t 71)⟩]) (.seq (.reg 20 [⟨some 73, none, .mv (.t 0)⟩, ⟨some 74, none, .mv (.t 10)⟩, ⟨some 75, none, .len false (.t 74)⟩, ⟨some 76, none, .ifc 3 (.t 75)⟩, ⟨some 77, none, .call (.c (.f (.func 75) [] [])) [.t 73, .t 76]⟩, ⟨some 72, none, .mv (.t 77)⟩, ⟨some 78, none, .ext (.t 72) 0⟩, ⟨some 79, none, .ext (.t 72) 1⟩, ⟨some 0, none, .mv (.t 78)⟩]) (.seq (.reg 21 [⟨some 80, none, .mv (.t 0)⟩, ⟨some 81, none, .mv (.t 10)⟩, ⟨some 82, none, .app false true 1 1 (.t 80) (.t 81)⟩, ⟨some 4, none, .mv (.t 82)⟩, ⟨some 5, none, .mv (.c (.b true))⟩]) .ret))) (.seq (.reg 22 [⟨some 83, none, .tas (.t 17) 23 true (.ag [.i .u8 0, .i .u8 0, .i .u8 0, .i .u8 0, .i .u8 0, .i .u8 0, .i .u8 0, .i .u8 0, .i .u8 0, .i .u8 0, .i .u8 0, .i .u8 0, .i .u8 0, .i .u8 0, .i .u8 0, .i .u8 0, .i .u8 0, .i .u8 0, .i .u8 0, .i .u8 0, .i .u8 0, .i .u8 0, .i .u8 0, .i .u8 0, .i .u8 0, .i .u8 0, .i .u8 0, .i .u8 0, .i .u8 0, .i .u8 0, .i .u8 0, .i .u8 0])⟩, ⟨some 84, none, .ext (.t 83) 1⟩, ⟨some 85, none, .ext (.t 83) 0⟩]) (.cond (.t 84) (.seq (.reg 23 [⟨some 11, none, .new true [.i .u8 0, .i .u8 0, .i .u8 0, .i .u8 0, .i .u8 0, .i .u8 0, .i .u8 0, .i .u8 0, .i .u8 0, .i .u8 0, .i .u8 0, .i .u8 0, .i .u8 0, .i .u8 0, .i .u8 0, .i .u8 0, .i .u8 0, .i .u8 0, .i .u8 0, .i .u8 0, .i .u8 0, .i .u8 0, .i .u8 0, .i .u8 0, .i .u8 0, .i .u8 0, .i .u8 0, .i .u8 0, .i .u8 0, .i .u8 0, .i .u8 0, .i .u8 0]⟩, ⟨none, none, .st (some 32) (.t 11) (.t 85)⟩]) (.seq (.reg 24 [⟨some 86, none, .mv (.t 0)⟩, ⟨some 87, none, .sla 32 1 (.t 11) none none none⟩, ⟨some 88, none, .app false true 1 1 (.t 86) (.t 87)⟩, ⟨some 4, none, .mv (.t 88)⟩, ⟨some 5, none, .mv (.c (.b true))⟩]) .ret)) (.seq (.reg 25 [⟨some 89, none, .tas (.t 17) 113 true (.ag [.i .i64 0, .i .i64 0])⟩, ⟨some 90, none, .ext (.t 89) 1⟩, ⟨some 91, none, .ext (.t 89) 0⟩]) (.cond (.t 90) (.seq (.reg 26 [⟨some 12, none, .new true [.i .i64 0, .i .i64 0]⟩, ⟨none, none, .st (some 2) (.t 12) (.t 91)⟩]) (.seq (.reg 27 [⟨some 93, none, .mv (.t 0)⟩, ⟨some 94, none, .fad 0 (.t 12)⟩, ⟨some 95, none, .ld none (.t 94)⟩, ⟨some 96, none, .ifc 3 (.t 95)⟩, ⟨some 97, none, .call (.c (.f (.func 75) [] [])) [.t 93, .t 96]⟩, ⟨some 92, none, .mv (.t 97)⟩, ⟨some 98, none, .ext (.t 92) 0⟩, ⟨some 99, none, .ext (.t 92) 1⟩, ⟨some 0, none, .mv (.t 98)⟩]) (.seq (.reg 28 [⟨some 101, none, .mv (.t 0)⟩, ⟨some 102, none, .fad 1 (.t 12)⟩, ⟨some 103, none, .ld none (.t 102)⟩, ⟨some 104, none, .ifc 3 (.t 103)⟩, ⟨some 105, none, .call (.c (.f (.func 75) [] [])) [.t 101, .t 104]⟩, ⟨some 100, none, .mv (.t 105)⟩, ⟨some 106, none, .ext (.t 100) 0⟩, ⟨some 107, none, .ext (.t 100) 1⟩, ⟨some 0, none, .mv (.t 106)⟩]) (.seq (.drw 29 [⟨⟨some 108, none, .mv (.t 0)⟩, 0, 1⟩, ⟨⟨some 109, none, .fad 0 (.t 12)⟩, 0, 4096⟩, ⟨⟨some 110, none, .ld none (.t 109)⟩, 2, 649037107316853453566312041152512⟩, ⟨⟨some 111, none, .bin .geq (.t 110) (.c (.i .i64 0))⟩, 6, 1298074214633706907132624082305024⟩, ⟨⟨some 112, none, .mv (.t 111)⟩, 14, 2596148429267413814265248164610048⟩, ⟨⟨some 113, some (112, true), .fad 1 (.t 12)⟩, 30, 5192296858534827628530496329224192⟩, ⟨⟨some 114, some (112, true), .ld none (.t 113)⟩, 62, 15576890575604482885591488987660288⟩, ⟨⟨some 115, some (112, true), .bin .geq (.t 114) (.c (.i .i64 0))⟩, 126, 25961484292674138142652481646100480⟩, ⟨⟨some 116, none, .pick (.t 112) (.t 115) (.c (.b false))⟩, 254, 46730671726813448656774466962980864⟩, ⟨⟨some 4, none, .mv (.t 108)⟩, 31, 324518553658426726783156020576256⟩, ⟨⟨some 5, none, .mv (.t 116)⟩, 1023, 83076749736557242056487941267521536⟩]) .ret)))) (.seq (.reg 30 [⟨some 117, none, .tas (.t 17) 107 true .ns⟩, ⟨some 118, none, .ext (.t 117) 1⟩, ⟨some 119, none, .ext (.t 117) 0⟩]) (.cond (.t 118) (.seq (.reg 31 [⟨some 13, none, .mv (.t 119)⟩]) (.seq (.reg 32 [⟨some 121, none, .mv (.t 0)⟩, ⟨some 122, none, .mv (.t 13)⟩, ⟨some 123, none, .len false (.t 122)⟩, ⟨some 124, none, .ifc 3 (.t 123)⟩, ⟨some 125, none, .call (.c (.f (.func 75) [] [])) [.t 121, .t 124]⟩, ⟨some 120, none, .mv (.t 125)⟩, ⟨some 126, none, .ext (.t 120) 0⟩, ⟨some 127, none, .ext (.t 120) 1⟩, ⟨some 0, none, .mv (.t 126)⟩]) (.seq (.seq (.reg 33 [⟨some 128, none, .mv (.t 13)⟩, ⟨some 129, none, .len false (.t 128)⟩, ⟨some 130, none, .mv (.c (.i .i64 0))⟩]) (.block 3 (.loop (.seq (.reg 34 [⟨some 131, none, .bin .lss (.t 130) (.t 129)⟩]) (.seq (.cond (.t 131) .skip (.exit 3)) (.seq (.block 4 (.seq (.reg 35 [⟨some 132, none, .iad 1 (.t 128) (.t 130)⟩, ⟨some 133, none, .ld none (.t 132)⟩, ⟨some 15, none, .mv (.t 133)⟩]) (.reg 36 [⟨some 135, none, .mv (.t 0)⟩, ⟨some 136, none, .mv (.t 15)⟩, ⟨some 137, none, .ifc 3 (.t 136)⟩, ⟨some 138, none, .call (.c (.f (.func 75) [] [])) [.t 135, .t 137]⟩, ⟨some 134, none, .mv (.t 138)⟩, ⟨some 139, none, .ext (.t 134) 0⟩, ⟨some 140, none, .ext (.t 134) 1⟩, ⟨some 0, none, .mv (.t 139)⟩]))) (.reg 37 [⟨some 141, none, .bin .add (.t 130) (.c (.i .i64 1))⟩, ⟨some 130, none, .mv (.t 141)⟩]))))))) (.seq (.reg 38 [⟨some 142, none, .mv (.t 0)⟩, ⟨some 143, none, .mv (.t 13)⟩, ⟨some 144, none, .call (.c (.f (.func 84) [] [])) [.t 143, .c (.f (.func 85) [] [])]⟩, ⟨some 145, none, .un .not (.t 144)⟩, ⟨some 4, none, .mv (.t 142)⟩, ⟨some 5, none, .mv (.t 145)⟩]) .ret)))) (.seq (.reg 39 [⟨some 146, none, .tas (.t 17) 4 true (.b false)⟩, ⟨some 147, none, .ext (.t 146) 1⟩, ⟨some 148, none, .ext (.t 146) 0⟩]) (.cond (.t 147) (.seq (.reg 40 [⟨some 16, none, .mv (.t 148)⟩]) (.seq (.seq (.reg 41 [⟨some 149, none, .mv (.t 16)⟩]) (.cond (.t 149) (.seq (.reg 42 [⟨some 150, none, .mv (.t 0)⟩, ⟨some 151, none, .bls true 1 [.i .u8 0] [(0, 1, .c (.i .u8 1))]⟩, ⟨some 152, none, .app false true 1 1 (.t 150) (.t 151)⟩, ⟨some 4, none, .mv (.t 152)⟩, ⟨some 5, none, .mv (.c (.b true))⟩]) .ret) .skip)) (.seq (.reg 43 [⟨some 153, none, .mv (.t 0)⟩, ⟨some 154, none, .bls true 1 [.i .u8 0] [(0, 1, .c (.i .u8 0))]⟩, ⟨some 155, none, .app false true 1 1 (.t 153) (.t 154)⟩, ⟨some 4, none, .mv (.t 155)⟩, ⟨some 5, none, .mv (.c (.b true))⟩]) .ret))) .skip)))))))))))))))) (.seq (.reg 44 [⟨some 156, none, .mv (.t 0)⟩, ⟨some 4, none, .mv (.t 156)⟩, ⟨some 5, none, .mv (.c (.b true))⟩]) .ret))⟩
theorem sw75 : zGn Try.prog Try.f75 = some w75 := by kernel_rfl
def w76 : CF := ⟨18, [], .seq (.reg 0 [⟨some 6, none, .mv (.t 0)⟩, ⟨some 7, none, .nck (.t 6)⟩, ⟨some 8, none, .fad 0 (.t 7)⟩, ⟨some 9, none, .fad 0 (.t 8)⟩, ⟨some 10, none, .ld none (.t 9)⟩, ⟨some 11, none, .bin .eql (.t 10) (.c (.i .i64 0))⟩]) (.cond (.t 11) (.reg 1 [⟨some 12, none, .mv (.t 0)⟩, ⟨some 13, none, .mv (.t 1)⟩, ⟨some 14, none, .mv (.t 2)⟩, ⟨some 15, none, .bld [.i .i64 0, .i .i64 0] [(0, 1, .t 13), (1, 1, .t 14)]⟩, ⟨some 16, none, .nck (.t 12)⟩, ⟨some 17, none, .fad 0 (.t 16)⟩, ⟨none, none, .st (some 2) (.t 17) (.t 15)⟩]) .skip)⟩
theorem sw76 : zGn Try.prog Try.f76 = some w76 := by kernel_rfl
def w77 : CF := ⟨19, [.t 2], .seq (.reg 0 [⟨some 2, none, .mv (.c (.b false))⟩]) (.seq (.reg 1 [⟨some 3, none, .mv (.t 0)⟩, ⟨some 4, none, .eqn false (.t 3) (.c .np)⟩, ⟨some 5, none, .mv (.t 4)⟩, ⟨some 6, some (5, false), .mv (.t 0)⟩, ⟨some 7, some (5, false), .nck (.t 6)⟩, ⟨some 8, some (5, false), .fad 0 (.t 7)⟩, ⟨some 9, some (5, false), .ld none (.t 8)⟩, ⟨some 10, some (5, false), .eqn false (.t 9) (.c .np)⟩, ⟨some 11, none, .pick (.t 5) (.c (.b true)) (.t 10)⟩, ⟨some 12, none, .mv (.t 11)⟩, ⟨some 13, some (12, false), .mv (.t 0)⟩, ⟨some 14, some (12, false), .nck (.t 13)⟩, ⟨some 15, some (12, false), .fad 0 (.t 14)⟩, ⟨some 16, some (12, false), .ld none (.t 15)⟩, ⟨some 17, some (12, false), .call (.c (.f (.func 58) [] [])) [.t 16]⟩, ⟨some 18, none, .pick (.t 12) (.c (.b true)) (.t 17)⟩, ⟨some 2, none, .mv (.t 18)⟩]) .ret)⟩
theorem sw77 : zGn Try.prog Try.f77 = some w77 := by kernel_rfl
def w78 : CF := ⟨18, [.t 2], .seq (.reg 0 [⟨some 2, none, .mv (.c (.i .i64 0))⟩]) (.seq (.seq (.reg 1 [⟨some 4, none, .mv (.t 0)⟩, ⟨some 5, none, .bin .lss (.t 4) (.c (.i .i64 192))⟩]) (.cond (.t 5) (.seq (.reg 2 [⟨some 2, none, .mv (.c (.i .i64 0))⟩]) .ret) .skip)) (.seq (.reg 3 [⟨some 3, none, .mv (.c (.i .i64 1))⟩]) (.seq (.block 0 (.loop (.seq (.seq (.reg 4 [⟨some 6, none, .mv (.t 3)⟩, ⟨some 7, none, .bin .lss (.t 6) (.c (.i .i64 8))⟩, ⟨some 8, none, .mv (.t 7)⟩, ⟨some 9, some (8, true), .mv (.t 0)⟩, ⟨some 10, some (8, true), .mv (.t 3)⟩, ⟨some 11, some (8, true), .bin .mul (.c (.i .i64 8)) (.t 10)⟩, ⟨some 12, some (8, true), .bin .shr (.t 9) (.t 11)⟩, ⟨some 13, some (8, true), .bin .gtr (.t 12) (.c (.i .i64 0))⟩, ⟨some 14, none, .pick (.t 8) (.t 13) (.c (.b false))⟩]) (.cond (.t 14) .skip (.exit 0))) (.block 1 (.reg 5 [⟨some 15, none, .mv (.t 3)⟩, ⟨some 16, none, .bin .add (.t 15) (.c (.i .i64 1))⟩, ⟨some 3, none, .mv (.t 16)⟩]))))) (.seq (.reg 6 [⟨some 17, none, .mv (.t 3)⟩, ⟨some 2, none, .mv (.t 17)⟩]) .ret))))⟩
theorem sw78 : zGn Try.prog Try.f78 = some w78 := by kernel_rfl
def w79 : CF := ⟨14, [.t 4], .seq (.reg 0 [⟨some 4, none, .mv (.c .ns)⟩]) (.seq (.reg 1 [⟨some 6, none, .mv (.t 0)⟩, ⟨some 7, none, .call (.c (.f (.func 86) [] [])) [.t 6]⟩, ⟨some 5, none, .mv (.t 7)⟩]) (.seq (.reg 2 [⟨some 8, none, .mv (.t 0)⟩, ⟨some 9, none, .mv (.t 0)⟩, ⟨some 10, none, .mv (.t 1)⟩, ⟨some 11, none, .call (.c (.f (.func 88) [] [])) [.t 9, .t 10]⟩, ⟨some 12, none, .mv (.t 5)⟩, ⟨some 13, none, .call (.c (.f (.func 87) [] [])) [.t 8, .t 11, .t 12]⟩, ⟨some 4, none, .mv (.t 13)⟩]) .ret))⟩
theorem sw79 : zGn Try.prog Try.f79 = some w79 := by kernel_rfl
def w80 : CF := ⟨10, [.cell 2 (some 32)], .seq (.reg 0 [⟨some 2, none, .new true [.i .u8 0, .i .u8 0, .i .u8 0, .i .u8 0, .i .u8 0, .i .u8 0, .i .u8 0, .i .u8 0, .i .u8 0, .i .u8 0, .i .u8 0, .i .u8 0, .i .u8 0, .i .u8 0, .i .u8 0, .i .u8 0, .i .u8 0, .i .u8 0, .i .u8 0, .i .u8 0, .i .u8 0, .i .u8 0, .i .u8 0, .i .u8 0, .i .u8 0, .i .u8 0, .i .u8 0, .i .u8 0, .i .u8 0, .i .u8 0, .i .u8 0, .i .u8 0]⟩]) (.seq (.drw 1 [⟨⟨some 3, none, .sla 32 1 (.t 2) none none none⟩, 0, 4⟩, ⟨⟨some 4, none, .mv (.t 0)⟩, 0, 1⟩, ⟨⟨some 5, none, .mv (.t 0)⟩, 0, 1⟩, ⟨⟨some 6, none, .call (.c (.f (.func 86) [] [])) [.t 5]⟩, 4, 32⟩, ⟨⟨some 7, none, .call (.c (.f (.func 87) [] [])) [.t 4, .c (.i .i64 32), .t 6]⟩, 14, 80⟩, ⟨⟨some 8, none, .cpy false 1 (.t 3) (.t 7)⟩, 31, 136⟩]) (.seq (.reg 2 [⟨some 9, none, .ld (some 32) (.t 2)⟩, ⟨none, none, .st (some 32) (.t 2) (.t 9)⟩]) .ret))⟩
theorem sw80 : zGn Try.prog Try.f80 = some w80 := by kernel_rfl
def w81 : CF := ⟨18, [], .seq (.reg 0 [⟨some 6, none, .mv (.t 0)⟩, ⟨some 7, none, .nck (.t 6)⟩, ⟨some 8, none, .fad 2 (.t 7)⟩, ⟨some 9, none, .fad 0 (.t 8)⟩, ⟨some 10, none, .ld none (.t 9)⟩, ⟨some 11, none, .bin .eql (.t 10) (.c (.i .i64 0))⟩]) (.cond (.t 11) (.reg 1 [⟨some 12, none, .mv (.t 0)⟩, ⟨some 13, none, .mv (.t 1)⟩, ⟨some 14, none, .mv (.t 2)⟩, ⟨some 15, none, .bld [.i .i64 0, .i .i64 0] [(0, 1, .t 13), (1, 1, .t 14)]⟩, ⟨some 16, none, .nck (.t 12)⟩, ⟨some 17, none, .fad 2 (.t 16)⟩, ⟨none, none, .st (some 2) (.t 17) (.t 15)⟩]) .skip)⟩
theorem sw81 : zGn Try.prog Try.f81 = some w81 := by kernel_rfl
def w82 : CF := ⟨71, [.t 4], .seq (.reg 0 [⟨some 4, none, .mv (.c .ns)⟩]) (.seq (.reg 1 [⟨some 8, none, .mv (.t 0)⟩, ⟨some 9, none, .nck (.t 8)⟩, ⟨some 10, none, .fad 1 (.t 9)⟩, ⟨some 11, none, .ld none (.t 10)⟩, ⟨some 5, none, .mv (.t 11)⟩]) (.seq (.reg 2 [⟨some 12, none, .mv (.t 0)⟩, ⟨some 13, none, .call (.c (.f (.func 72) [] [])) [.t 12]⟩, ⟨some 6, none, .mv (.t 13)⟩]) (.seq (.block 0 (.seq (.reg 3 [⟨some 15, none, .mv (.t 0)⟩, ⟨some 16, none, .nck (.t 15)⟩, ⟨some 17, none, .fad 2 (.t 16)⟩, ⟨some 18, none, .fad 0 (.t 17)⟩, ⟨some 19, none, .ld none (.t 18)⟩, ⟨some 20, none, .bin .neq (.t 19) (.c (.i .i64 0))⟩, ⟨some 14, none, .mv (.t 20)⟩]) (.cond (.t 14) (.seq (.reg 4 [⟨some 4, none, .mv (.c .ns)⟩]) .ret) (.seq (.reg 5 [⟨some 22, none, .mv (.t 6)⟩, ⟨some 23, none, .mv (.t 1)⟩, ⟨some 24, none, .bin .gtr (.t 22) (.t 23)⟩, ⟨some 21, none, .mv (.t 24)⟩]) (.cond (.t 21) (.seq (.reg 6 [⟨some 25, none, .mv (.t 0)⟩, ⟨some 26, none, .mv (.t 5)⟩, ⟨some 27, none, .call (.c (.f (.func 81) [] [])) [.t 25, .c (.i .i64 4), .t 26]⟩]) (.seq (.reg 7 [⟨some 4, none, .mv (.c .ns)⟩]) .ret)) (.seq (.drw 8 [⟨⟨some 29, none, .mv (.t 6)⟩, 0, 64⟩, ⟨⟨some 30, none, .mv (.t 0)⟩, 0, 1⟩, ⟨⟨some 31, none, .nck (.t 30)⟩, 2, 1073741824⟩, ⟨⟨some 32, none, .fad 0 (.t 31)⟩, 6, 2147483648⟩, ⟨⟨some 33, none, .ld none (.t 32)⟩, 14, 4294967296⟩, ⟨⟨some 34, none, .len false (.t 33)⟩, 30, 8589934592⟩, ⟨⟨some 35, none, .mv (.t 0)⟩, 0, 1⟩, ⟨⟨some 36, none, .nck (.t 35)⟩, 64, 34359738368⟩, ⟨⟨some 37, none, .fad 1 (.t 36)⟩, 192, 68719476736⟩, ⟨⟨some 38, none, .ld none (.t 37)⟩, 448, 137438953472⟩, ⟨⟨some 39, none, .bin .sub (.t 34) (.t 38)⟩, 1022, 292057776128⟩, ⟨⟨some 40, none, .bin .gtr (.t 29) (.t 39)⟩, 2047, 550292684800⟩, ⟨⟨some 28, none, .mv (.t 40)⟩, 4095, 1099511627776⟩]) (.cond (.t 28) (.seq (.reg 9 [⟨some 41, none, .mv (.t 0)⟩, ⟨some 42, none, .mv (.t 5)⟩, ⟨some 43, none, .call (.c (.f (.func 81) [] [])) [.t 41, .c (.i .i64 6), .t 42]⟩]) (.seq (.reg 10 [⟨some 4, none, .mv (.c .ns)⟩]) .ret)) .skip))))))) (.seq (.drw 11 [⟨⟨some 44, none, .bls true 0 [] []⟩, 0, 0⟩, ⟨⟨some 45, none, .mv (.t 0)⟩, 0, 1⟩, ⟨⟨some 46, none, .nck (.t 45)⟩, 2, 35184372088832⟩, ⟨⟨some 47, none, .fad 0 (.t 46)⟩, 6, 70368744177664⟩, ⟨⟨some 48, none, .ld none (.t 47)⟩, 14, 140737488355328⟩, ⟨⟨some 49, none, .mv (.t 0)⟩, 0, 1⟩, ⟨⟨some 50, none, .nck (.t 49)⟩, 32, 562949953421312⟩, ⟨⟨some 51, none, .fad 1 (.t 50)⟩, 96, 1125899906842624⟩, ⟨⟨some 52, none, .ld none (.t 51)⟩, 224, 2251799813685248⟩, ⟨⟨some 53, none, .mv (.t 0)⟩, 0, 1⟩, ⟨⟨some 54, none, .nck (.t 53)⟩, 512, 9007199254740992⟩, ⟨⟨some 55, none, .fad 1 (.t 54)⟩, 1536, 18014398509481984⟩, ⟨⟨some 56, none, .ld none (.t 55)⟩, 3584, 36028797018963968⟩, ⟨⟨some 57, none, .mv (.t 6)⟩, 0, 64⟩, ⟨⟨some 58, none, .bin .add (.t 56) (.t 57)⟩, 15872, 216172782113783808⟩, ⟨⟨some 59, none, .sll 1 (.t 48) (some (.t 52)) (some (.t 58)) none⟩, 32766, 293015450755792896⟩, ⟨⟨some 60, none, .app false true 1 1 (.t 44) (.t 59)⟩, 65535, 576478344489467904⟩, ⟨⟨some 7, none, .mv (.t 60)⟩, 131071, 1152921504606846976⟩]) (.seq (.reg 12 [⟨some 61, none, .mv (.t 0)⟩, ⟨some 62, none, .mv (.t 0)⟩, ⟨some 63, none, .nck (.t 62)⟩, ⟨some 64, none, .fad 1 (.t 63)⟩, ⟨some 65, none, .ld none (.t 64)⟩, ⟨some 66, none, .mv (.t 6)⟩, ⟨some 67, none, .bin .add (.t 65) (.t 66)⟩, ⟨some 68, none, .nck (.t 61)⟩, ⟨some 69, none, .fad 1 (.t 68)⟩, ⟨none, none, .st none (.t 69) (.t 67)⟩]) (.seq (.reg 13 [⟨some 70, none, .mv (.t 7)⟩, ⟨some 4, none, .mv (.t 70)⟩]) .ret))))))⟩
theorem sw82 : zGn Try.prog Try.f82 = some w82 := by kernel_rfl
def w83 : CF := ⟨59, [.cell 2 (some 32)], .seq (.reg 0 [⟨some 2, none, .new true [.i .u8 0, .i .u8 0, .i .u8 0, .i .u8 0, .i .u8 0, .i .u8 0, .i .u8 0, .i .u8 0, .i .u8 0, .i .u8 0, .i .u8 0, .i .u8 0, .i .u8 0, .i .u8 0, .i .u8 0, .i .u8 0, .i .u8 0, .i .u8 0, .i .u8 0, .i .u8 0, .i .u8 0, .i .u8 0, .i .u8 0, .i .u8 0, .i .u8 0, .i .u8 0, .i .u8 0, .i .u8 0, .i .u8 0, .i .u8 0, .i .u8 0, .i .u8 0]⟩]) (.seq (.reg 1 [⟨some 3, none, .new true [.i .u8 0, .i .u8 0, .i .u8 0, .i .u8 0, .i .u8 0, .i .u8 0, .i .u8 0, .i .u8 0, .i .u8 0, .i .u8 0, .i .u8 0, .i .u8 0, .i .u8 0, .i .u8 0, .i .u8 0, .i .u8 0, .i .u8 0, .i .u8 0, .i .u8 0, .i .u8 0, .i .u8 0, .i .u8 0, .i .u8 0, .i .u8 0, .i .u8 0, .i .u8 0, .i .u8 0, .i .u8 0, .i .u8 0, .i .u8 0, .i .u8 0, .i .u8 0]⟩]) (.seq (.block 0 (.seq (.reg 2 [⟨some 6, none, .mv (.t 0)⟩, ⟨some 7, none, .nck (.t 6)⟩, ⟨some 8, none, .fad 2 (.t 7)⟩, ⟨some 9, none, .fad 0 (.t 8)⟩, ⟨some 10, none, .ld none (.t 9)⟩, ⟨some 11, none, .bin .neq (.t 10) (.c (.i .i64 0))⟩, ⟨some 5, none, .mv (.t 11)⟩]) (.cond (.t 5) (.seq (.reg 3 [⟨some 12, none, .bld [.i .u8 0, .i .u8 0, .i .u8 0, .i .u8 0, .i .u8 0, .i .u8 0, .i .u8 0, .i .u8 0, .i .u8 0, .i .u8 0, .i .u8 0, .i .u8 0, .i .u8 0, .i .u8 0, .i .u8 0, .i .u8 0, .i .u8 0, .i .u8 0, .i .u8 0, .i .u8 0, .i .u8 0, .i .u8 0, .i .u8 0, .i .u8 0, .i .u8 0, .i .u8 0, .i .u8 0, .i .u8 0, .i .u8 0, .i .u8 0, .i .u8 0, .i .u8 0] []⟩, ⟨none, none, .st (some 32) (.t 2) (.t 12)⟩]) .ret) (.seq (.drw 4 [⟨⟨some 14, none, .mv (.t 0)⟩, 0, 1⟩, ⟨⟨some 15, none, .nck (.t 14)⟩, 1, 16384⟩, ⟨⟨some 16, none, .fad 0 (.t 15)⟩, 3, 32768⟩, ⟨⟨some 17, none, .ld none (.t 16)⟩, 7, 65536⟩, ⟨⟨some 18, none, .len false (.t 17)⟩, 15, 131072⟩, ⟨⟨some 19, none, .mv (.t 0)⟩, 0, 1⟩, ⟨⟨some 20, none, .nck (.t 19)⟩, 32, 524288⟩, ⟨⟨some 21, none, .fad 1 (.t 20)⟩, 96, 1048576⟩, ⟨⟨some 22, none, .ld none (.t 21)⟩, 224, 2097152⟩, ⟨⟨some 23, none, .bin .sub (.t 18) (.t 22)⟩, 511, 4456448⟩, ⟨⟨some 24, none, .bin .lss (.t 23) (.c (.i .i64 32))⟩, 1023, 8388608⟩, ⟨⟨some 13, none, .mv (.t 24)⟩, 2047, 16777216⟩]) (.cond (.t 13) (.seq (.reg 5 [⟨some 25, none, .mv (.t 0)⟩, ⟨some 26, none, .mv (.t 0)⟩, ⟨some 27, none, .nck (.t 26)⟩, ⟨some 28, none, .fad 1 (.t 27)⟩, ⟨some 29, none, .ld none (.t 28)⟩, ⟨some 30, none, .call (.c (.f (.func 81) [] [])) [.t 25, .c (.i .i64 6), .t 29]⟩]) (.seq (.reg 6 [⟨some 31, none, .bld [.i .u8 0, .i .u8 0, .i .u8 0, .i .u8 0, .i .u8 0, .i .u8 0, .i .u8 0, .i .u8 0, .i .u8 0, .i .u8 0, .i .u8 0, .i .u8 0, .i .u8 0, .i .u8 0, .i .u8 0, .i .u8 0, .i .u8 0, .i .u8 0, .i .u8 0, .i .u8 0, .i .u8 0, .i .u8 0, .i .u8 0, .i .u8 0, .i .u8 0, .i .u8 0, .i .u8 0, .i .u8 0, .i .u8 0, .i .u8 0, .i .u8 0, .i .u8 0] []⟩, ⟨none, none, .st (some 32) (.t 2) (.t 31)⟩]) .ret)) .skip))))) (.seq (.seq (.reg 7 [⟨some 4, none, .mv (.c (.i .i64 0))⟩]) (.block 1 (.loop (.seq (.seq (.reg 8 [⟨some 32, none, .mv (.t 4)⟩, ⟨some 33, none, .bin .lss (.t 32) (.c (.i .i64 32))⟩]) (.cond (.t 33) .skip (.exit 1))) (.seq (.block 2 (.drw 10 [⟨⟨some 36, none, .mv (.t 4)⟩, 0, 16⟩, ⟨⟨some 37, none, .mv (.t 0)⟩, 0, 1⟩, ⟨⟨some 38, none, .nck (.t 37)⟩, 2, 137438953472⟩, ⟨⟨some 39, none, .fad 0 (.t 38)⟩, 6, 274877906944⟩, ⟨⟨some 40, none, .ld none (.t 39)⟩, 14, 549755813888⟩, ⟨⟨some 41, none, .mv (.t 0)⟩, 0, 1⟩, ⟨⟨some 42, none, .nck (.t 41)⟩, 32, 2199023255552⟩, ⟨⟨some 43, none, .fad 1 (.t 42)⟩, 96, 4398046511104⟩, ⟨⟨some 44, none, .ld none (.t 43)⟩, 224, 8796093022208⟩, ⟨⟨some 45, none, .mv (.t 4)⟩, 0, 16⟩, ⟨⟨some 46, none, .bin .add (.t 44) (.t 45)⟩, 992, 52776558133248⟩, ⟨⟨some 47, none, .iad 1 (.t 40) (.t 46)⟩, 2046, 71468255805440⟩, ⟨⟨some 48, none, .ld none (.t 47)⟩, 4094, 140737488355328⟩, ⟨⟨some 49, none, .iaa 32 1 (.t 3) (.t 36)⟩, 8191, 68719476744⟩, ⟨⟨none, none, .st none (.t 49) (.t 48)⟩, 16383, 844424930131968⟩])) (.reg 9 [⟨some 34, none, .mv (.t 4)⟩, ⟨some 35, none, .bin .add (.t 34) (.c (.i .i64 1))⟩, ⟨some 4, none, .mv (.t 35)⟩])))))) (.seq (.reg 11 [⟨some 50, none, .mv (.t 0)⟩, ⟨some 51, none, .mv (.t 0)⟩, ⟨some 52, none, .nck (.t 51)⟩, ⟨some 53, none, .fad 1 (.t 52)⟩, ⟨some 54, none, .ld none (.t 53)⟩, ⟨some 55, none, .bin .add (.t 54) (.c (.i .i64 32))⟩, ⟨some 56, none, .nck (.t 50)⟩, ⟨some 57, none, .fad 1 (.t 56)⟩, ⟨none, none, .st none (.t 57) (.t 55)⟩]) (.seq (.reg 12 [⟨some 58, none, .ld (some 32) (.t 3)⟩, ⟨none, none, .st (some 32) (.t 2) (.t 58)⟩]) .ret)))))⟩
theorem sw83 : zGn Try.prog Try.f83 = some w83 := by kernel_rfl
def w86 : CF := ⟨9, [.t 2], .seq (.reg 0 [⟨some 2, none, .mv (.c (.i .i64 0))⟩]) (.seq (.seq (.reg 1 [⟨some 3, none, .mv (.t 0)⟩, ⟨some 4, none, .call (.c (.f (.func 77) [] [])) [.t 3]⟩]) (.cond (.t 4) (.seq (.reg 2 [⟨some 2, none, .mv (.c (.i .i64 0))⟩]) .ret) .skip)) (.seq (.reg 3 [⟨some 5, none, .mv (.t 0)⟩, ⟨some 6, none, .nck (.t 5)⟩, ⟨some 7, none, .fad 2 (.t 6)⟩, ⟨some 8, none, .ld none (.t 7)⟩, ⟨some 2, none, .mv (.t 8)⟩]) .ret))⟩
theorem sw86 : zGn Try.prog Try.f86 = some w86 := by kernel_rfl
def w87 : CF := ⟨53, [.t 6], .seq (.reg 0 [⟨some 6, none, .mv (.c .ns)⟩]) (.seq (.seq (.reg 1 [⟨some 8, none, .mv (.t 0)⟩, ⟨some 9, none, .call (.c (.f (.func 77) [] [])) [.t 8]⟩]) (.cond (.t 9) (.seq (.reg 2 [⟨some 6, none, .mv (.c .ns)⟩]) .ret) .skip)) (.seq (.seq (.drw 3 [⟨⟨some 10, none, .mv (.t 1)⟩, 0, 2⟩, ⟨⟨some 11, none, .mv (.t 0)⟩, 0, 1⟩, ⟨⟨some 12, none, .nck (.t 11)⟩, 2, 2048⟩, ⟨⟨some 13, none, .fad 1 (.t 12)⟩, 6, 4096⟩, ⟨⟨some 14, none, .ld none (.t 13)⟩, 14, 8192⟩, ⟨⟨some 15, none, .len false (.t 14)⟩, 30, 16384⟩, ⟨⟨some 16, none, .mv (.t 0)⟩, 0, 1⟩, ⟨⟨some 17, none, .nck (.t 16)⟩, 64, 65536⟩, ⟨⟨some 18, none, .fad 2 (.t 17)⟩, 192, 131072⟩, ⟨⟨some 19, none, .ld none (.t 18)⟩, 448, 262144⟩, ⟨⟨some 20, none, .bin .sub (.t 15) (.t 19)⟩, 1022, 557056⟩, ⟨⟨some 21, none, .bin .gtr (.t 10) (.t 20)⟩, 2047, 1049600⟩]) (.cond (.t 21) (.seq (.reg 4 [⟨some 22, none, .mv (.t 0)⟩, ⟨some 23, none, .nck (.t 22)⟩, ⟨some 24, none, .fad 0 (.t 23)⟩, ⟨some 25, none, .ld none (.t 24)⟩, ⟨some 26, none, .mv (.t 2)⟩, ⟨some 27, none, .call (.c (.f (.func 76) [] [])) [.t 25, .c (.i .i64 6), .t 26]⟩]) (.seq (.reg 5 [⟨some 6, none, .mv (.c .ns)⟩]) .ret)) .skip)) (.seq (.drw 6 [⟨⟨some 28, none, .mv (.t 0)⟩, 0, 1⟩, ⟨⟨some 29, none, .nck (.t 28)⟩, 1, 268435456⟩, ⟨⟨some 30, none, .fad 1 (.t 29)⟩, 3, 536870912⟩, ⟨⟨some 31, none, .ld none (.t 30)⟩, 7, 1073741824⟩, ⟨⟨some 32, none, .mv (.t 0)⟩, 0, 1⟩, ⟨⟨some 33, none, .nck (.t 32)⟩, 16, 4294967296⟩, ⟨⟨some 34, none, .fad 2 (.t 33)⟩, 48, 8589934592⟩, ⟨⟨some 35, none, .ld none (.t 34)⟩, 112, 17179869184⟩, ⟨⟨some 36, none, .mv (.t 0)⟩, 0, 1⟩, ⟨⟨some 37, none, .nck (.t 36)⟩, 256, 68719476736⟩, ⟨⟨some 38, none, .fad 2 (.t 37)⟩, 768, 137438953472⟩, ⟨⟨some 39, none, .ld none (.t 38)⟩, 1792, 274877906944⟩, ⟨⟨some 40, none, .mv (.t 1)⟩, 0, 2⟩, ⟨⟨some 41, none, .bin .add (.t 39) (.t 40)⟩, 7936, 1649267441664⟩, ⟨⟨some 42, none, .sll 1 (.t 31) (some (.t 35)) (some (.t 41)) none⟩, 16383, 2235530477568⟩, ⟨⟨some 43, none, .call (.c (.f (.func 59) [] [])) [.t 42]⟩, 32767, 4398046511104⟩, ⟨⟨some 7, none, .mv (.t 43)⟩, 65535, 8796093022208⟩]) (.seq (.reg 7 [⟨some 44, none, .mv (.t 0)⟩, ⟨some 45, none, .nck (.t 44)⟩, ⟨some 46, none, .fad 2 (.t 45)⟩, ⟨some 47, none, .ld none (.t 46)⟩, ⟨some 48, none, .mv (.t 1)⟩, ⟨some 49, none, .bin .add (.t 47) (.t 48)⟩, ⟨some 50, none, .nck (.t 44)⟩, ⟨some 51, none, .fad 2 (.t 50)⟩, ⟨none, none, .st none (.t 51) (.t 49)⟩]) (.seq (.reg 8 [⟨some 52, none, .mv (.t 7)⟩, ⟨some 6, none, .mv (.t 52)⟩]) .ret)))))⟩
theorem sw87 : zGn Try.prog Try.f87 = some w87 := by kernel_rfl
def w88 : CF := ⟨25, [.t 4], .seq (.reg 0 [⟨some 4, none, .mv (.c (.i .i64 0))⟩]) (.seq (.seq (.reg 1 [⟨some 7, none, .mv (.t 0)⟩, ⟨some 8, none, .call (.c (.f (.func 77) [] [])) [.t 7]⟩]) (.cond (.t 8) (.seq (.reg 2 [⟨some 4, none, .mv (.c (.i .i64 0))⟩]) .ret) .skip)) (.seq (.reg 3 [⟨some 9, none, .mv (.t 0)⟩, ⟨some 10, none, .nck (.t 9)⟩, ⟨some 11, none, .fad 2 (.t 10)⟩, ⟨some 12, none, .ld none (.t 11)⟩, ⟨some 5, none, .mv (.t 12)⟩]) (.seq (.reg 4 [⟨some 13, none, .mv (.t 0)⟩, ⟨some 14, none, .call (.c (.f (.func 66) [] [])) [.t 13]⟩, ⟨some 6, none, .mv (.t 14)⟩]) (.seq (.seq (.reg 5 [⟨some 15, none, .mv (.t 6)⟩, ⟨some 16, none, .mv (.t 1)⟩, ⟨some 17, none, .bin .gtr (.t 15) (.t 16)⟩]) (.cond (.t 17) (.reg 6 [⟨some 18, none, .mv (.t 0)⟩, ⟨some 19, none, .nck (.t 18)⟩, ⟨some 20, none, .fad 0 (.t 19)⟩, ⟨some 21, none, .ld none (.t 20)⟩, ⟨some 22, none, .mv (.t 5)⟩, ⟨some 23, none, .call (.c (.f (.func 76) [] [])) [.t 21, .c (.i .i64 4), .t 22]⟩]) .skip)) (.seq (.reg 7 [⟨some 24, none, .mv (.t 6)⟩, ⟨some 4, none, .mv (.t 24)⟩]) .ret)))))⟩
theorem sw88 : zGn Try.prog Try.f88 = some w88 := by kernel_rfl
end Go.Proofs.Ytpoojfnmhnedpaa
end
section
namespace Go.Proofs.Ytpoojfnmhnedpaa
set_option maxRecDepth 100000
set_option maxHeartbeats 4000000
theorem zCe (k : IntKind) (a b : Int) : binV .mul (.i k a) (.i k b) = some (.i k (k.wrap (a * b))) := by simp [binV, binI]
theorem KOV (k k' : IntKind) (a : Int) (b : Nat) : binV .shr (.i k a) (.i k' (b : Int)) = some (.i k (a.fdiv (2 ^ (min b k.bits)))) := by
 simp only [binV]
 rw [if_neg (by omega), Int.toNat_natCast]
theorem ZIZ : IntKind.bits .i64 = 64 := _root_.id rfl
noncomputable def KaM : List AV → List AB → Option (AV × List AB)
 | [.i .i64 n], h => some (.i .i64 (Xwj n), h)
 | _, _ => none
theorem ZYj : Spec Try.prog 78 KaM := by
 intro args h v h' e
 unfold KaM at e
 split at e
 ·rename_i n
  cases e
  refine FnAt.c (FnAt.run (by kernel_rfl) (T := ⟨[], []⟩) ⟨trivial, trivial⟩ Try.func78 sw78 fun ho hh => ?_)
  unfold w78
  by_cases g1 : n < 192
  ·have g1' := eq_true g1
   have hr : Xwj n = 0 := by unfold Xwj; rw [if_pos g1]
   simp only [JaG, Qv6, Zsz, qtO, quq, simprocAttr, CO.tmps, Opd.tmps, optT, Nat.reducePow, Nat.reduceDiv, Nat.reduceMod, g1']
   rw [hr]
   exact Bt.drop _ hh rfl rfl
  ·have g1' := eq_false g1
   have hr : Xwj n = Zd0 7 n 1 := by unfold Xwj; rw [if_neg g1]
   simp only [JaG, Qv6, Zsz, qtO, quq, simprocAttr, CO.tmps, Opd.tmps, optT, Nat.reducePow, Nat.reduceDiv, Nat.reduceMod, g1']
   refine JRq (S := Nat) (fun k => 8 - k) (fun k => [.i .i64 n] ++ tp 1 ++ [.i .i64 0, .i .i64 k] ++ tp 14) (fun _ => h) (fun k => 1 ≤ k ∧ k ≤ 8 ∧ Zd0 7 n 1 = Zd0 (8 - k) n k) 1 ⟨Nat.le_refl _, by decide, rfl⟩ (by rw [List.append_nil]; exact Bt.wk (by simp only [Zsz, quq, simprocAttr])) fun k hk => ?_
   obtain ⟨k1, k8, ks⟩ := hk
   by_cases g2 : k < 8
   ·have g2' : ((k : Int) < 8) = True := eq_true (by omega)
    have e1 : IntKind.i64.wrap (8 * (k : Int)) = ((8 * k : Nat) : Int) := by rw [Int.natCast_mul]; exact KqM (by unfold In64; omega)
    have e2 : IntKind.i64.wrap ((k : Int) + 1) = ((k + 1 : Nat) : Int) := KqM (by unfold In64; omega)
    have e3 : min (8 * k) 64 = 8 * k := by omega
    have e4 : (((8 * k : Nat) : Int) < 0) = False := eq_false (by omega)
    have e5 : Int.fdiv n (2 ^ (8 * k)) = n / 2 ^ (8 * k) := Int.fdiv_eq_ediv_of_nonneg _ (Int.le_of_lt (Int.pow_pos (by decide)))
    have ss : Zd0 (8 - k) n k = if 0 < n / 2 ^ (8 * k) then Zd0 (8 - (k + 1)) n (k + 1) else k := by
     rw [show 8 - k = (8 - (k + 1)) + 1 by omega]
     rfl
    by_cases g3 : 0 < n / 2 ^ (8 * k)
    ·have g3' := eq_true g3
     simp only [Zsz, qtO, quq, simprocAttr, CO.tmps, Opd.tmps, optT, Nat.reducePow, Nat.reduceDiv, Nat.reduceMod, g2', e1, e2, e3, e4, e5, g3', zCe, KOV, ZIZ]
     exact ⟨k + 1, ⟨by omega, by omega, by rw [ks, ss, if_pos g3]⟩, by dsimp only; omega, Bt.wk (by simp only [Zsz, quq, simprocAttr])⟩
    ·have g3' := eq_false g3
     simp only [Zsz, qtO, quq, simprocAttr, CO.tmps, Opd.tmps, optT, Nat.reducePow, Nat.reduceDiv, Nat.reduceMod, g2', e1, e2, e3, e4, e5, g3', zCe, KOV, ZIZ]
     rw [hr, ks, ss, if_neg g3]
     exact Bt.wk (by simp only [Zsz, quq, simprocAttr])
   ·have g2' : ((k : Int) < 8) = False := eq_false (by omega)
    simp only [Zsz, qtO, quq, simprocAttr, CO.tmps, Opd.tmps, optT, Nat.reducePow, Nat.reduceDiv, Nat.reduceMod, g2']
    have : k = 8 := by omega
    subst this
    rw [hr, ks]
    exact Bt.wk (by simp only [Zsz, quq, simprocAttr, Zd0])
 ·cases e
end Go.Proofs.Ytpoojfnmhnedpaa
end
section
namespace Go.Proofs.Ytpoojfnmhnedpaa
set_option maxRecDepth 100000
set_option maxHeartbeats 4000000
def ZJ7 : List AV → List AB → Option (AV × List AB)
 | [.p j 0], h => match Za2 h j with
   | some [.i .i64 e, .i .i64 _] => some (.b (decide (¬ e = 0)), h)
   | _ => none
 | _, _ => none
theorem YfC : Spec Try.prog 58 ZJ7 := by
 intro args h v h' e
 unfold ZJ7 at e
 split at e
 ·rename_i j
  split at e
  ·rename_i er a hb
   cases e
   refine FnAt.c (FnAt.run (by kernel_rfl) (T := ⟨[], []⟩) ⟨trivial, trivial⟩ Try.func58 sw58 fun ho hh => ?_)
   have f1 := Yx2 hb
   unfold w58
   simp only [JaG, Qv6, Zsz, qtO, quq, simprocAttr, CO.tmps, Opd.tmps, optT, Nat.reducePow, Nat.reduceDiv, Nat.reduceMod, f1, List.getElem?_cons_zero]
   exact Bt.dropB _ hh rfl
  ·cases e
 ·cases e
theorem zoX (i o : Nat) : Jx6 (.p i o) .np = some false := _root_.id rfl
def XHU : List AV → List AB → Option (AV × List AB)
 | [.p i 0], h => match Za2 h i with
   | some [.p j 0, _, _] => match Za2 h j with
    | some [.i .i64 e, .i .i64 _] => some (.b (decide (¬ e = 0)), h)
    | _ => none
   | _ => none
 | _, _ => none
theorem JH2 : Spec Try.prog 77 XHU := by
 intro args h v h' e
 unfold XHU at e
 split at e
 ·rename_i i
  split at e
  ·rename_i j s p hb
   split at e
   ·rename_i er a hc
    cases e
    refine FnAt.c (FnAt.run (by kernel_rfl) (T := ⟨[⟨58, ZJ7, fun _ => []⟩], []⟩) ⟨⟨YfC, trivial⟩, trivial⟩ Try.func77 sw77 fun ho hh => ?_)
    have f1 := Yx2 hb
    have f2 := Yx2 hc
    unfold w77
    simp only [JaG, Qv6, Zsz, qtO, quq, simprocAttr, CO.tmps, Opd.tmps, optT, Nat.reducePow, Nat.reduceDiv, Nat.reduceMod, f1, f2, ZJ7, zoX, List.getElem?_cons_zero, List.getElem?_cons_succ]
    exact Bt.dropB _ hh rfl
   ·cases e
  ·cases e
 ·cases e
end Go.Proofs.Ytpoojfnmhnedpaa
end
section
namespace Go.Proofs.Ytpoojfnmhnedpaa
set_option maxRecDepth 100000
set_option maxHeartbeats 4000000
theorem J5n {h : List AB} {i : Nat} {fl : Bool} {cells : List AV} (hi : h[i]? = some (.blk fl true cells)) {o : Nat} {vs : List AV} (ho : o + vs.length ≤ cells.length) (hw : vs.all (wrOk fl) = true) (x : List AB) : stV (h ++ x) (some vs.length) (.p i o) (.ag vs) = some (h.set i (.blk fl true (over cells o vs)) ++ x) := by
 have hlt := (List.getElem?_eq_some_iff.1 hi).1
 simp only [stV, if_true, stB]
 rw [List.getElem?_append_left hlt, hi]
 dsimp only
 rw [if_pos ⟨ho, hw⟩, List.set_append_left _ _ hlt]
theorem JJD {h : List AB} (hh : HOk h) (id : Nat) {B : AB} (hB : ∀ q, B.ok q = true) : HOk (h.set id B) := fun i C hC => by
 rw [List.length_set]
 rw [List.getElem?_set] at hC
 split at hC
 ·split at hC
  ·cases hC
   exact hB _
  ·cases hC
 ·exact hh i C hC
theorem Bt.dropS {P : Program} {h : List AB} {j : Nat} {B : AB} {v a : AV} (L : List AB) (hh : HOk h) (hB : ∀ q, B.ok q = true) (e : v = a) (hok : v.ok (fun i => decide (i < h.length)) = true) : Bt P h.length [v] (h.set j B ++ L) [a] (h.set j B) := by
 have := Bt.drop (P := P) (h := h.set j B) (v := v) (a := a) L (JJD hh j hB) e (by rw [List.length_set]; exact hok)
 rwa [List.length_set] at this
noncomputable def QCR : List AV → List AB → Option (AV × List AB)
 | [.p j 0, .i .i64 e, .i .i64 at0], h => match h[j]? with
   | some (.blk true true [.i .i64 er, .i .i64 _]) => some (.tu [], if er = 0 then h.set j (.blk true true [.i .i64 e, .i .i64 at0]) else h)
   | _ => none
 | _, _ => none
theorem QSN : Spec Try.prog 76 QCR := by
 intro args h v h' e
 unfold QCR at e
 split at e
 ·rename_i j er at0
  split at e
  ·rename_i e0 a0 hj
   cases e
   have hb : Za2 h j = some [.i .i64 e0, .i .i64 a0] := by unfold Za2; rw [hj]
   have q : ∀ x, stV (h ++ x) (some 2) (.p j 0) (.ag [.i .i64 er, .i .i64 at0]) = some (h.set j (.blk true true [.i .i64 er, .i .i64 at0]) ++ x) := fun x => J5n hj (o := 0) (vs := [.i .i64 er, .i .i64 at0]) (Nat.le_refl 2) rfl x
   refine FnAt.c (FnAt.run (by kernel_rfl) (T := ⟨[], []⟩) ⟨trivial, trivial⟩ Try.func76 sw76 fun ho hh => ?_)
   have f1 := Yx2 hb
   unfold w76
   by_cases g : e0 = 0
   ·have g' := eq_true g
    simp only [JaG, Qv6, Zsz, qtO, quq, simprocAttr, CO.tmps, Opd.tmps, optT, Nat.reducePow, Nat.reduceDiv, Nat.reduceMod, f1, g', List.getElem?_cons_zero, q]
    exact Bt.dropS [] hh (fun _ => rfl) rfl rfl
   ·have g' := eq_false g
    simp only [JaG, Qv6, Zsz, qtO, quq, simprocAttr, CO.tmps, Opd.tmps, optT, Nat.reducePow, Nat.reduceDiv, Nat.reduceMod, f1, g', List.getElem?_cons_zero]
    exact Bt.drop _ hh rfl rfl
  ·cases e
 ·cases e
end Go.Proofs.Ytpoojfnmhnedpaa
end
section
namespace Go.Proofs.Ytpoojfnmhnedpaa
set_option maxRecDepth 100000
set_option maxHeartbeats 4000000
def rdr (h : List AB) (i : Nat) : Option (Nat × AV × Int × Int × Int) := match h[i]? with
 | some (.blk false _ [.p j 0, s, .i .i64 p]) => match Za2 h j with
  | some [.i .i64 e, .i .i64 a] => some (j, s, p, e, a)
  | _ => none
 | _ => none
theorem YQu {h : List AB} {i j : Nat} {s : AV} {p e a : Int} (q : rdr h i = some (j, s, p, e, a)) : (∃ m, h[i]? = some (.blk false m [.p j 0, s, .i .i64 p])) ∧ Za2 h j = some [.i .i64 e, .i .i64 a] := by
 unfold rdr at q
 split at q
 ·rename_i hb
  split at q
  ·rename_i hc
   simp only [Option.some.injEq, Prod.mk.injEq] at q
   obtain ⟨rfl, rfl, rfl, rfl, rfl⟩ := q
   exact ⟨⟨_, hb⟩, hc⟩
  ·cases q
 ·cases q
theorem qRo {β : Type} {h : List AB} {i : Nat} {f : Nat × AV × Int × Int × Int → Option β} {b : β} (q : (rdr h i).bind f = some b) : ∃ j s p e a, (∃ m, h[i]? = some (.blk false m [.p j 0, s, .i .i64 p])) ∧ Za2 h i = some [.p j 0, s, .i .i64 p] ∧ Za2 h j = some [.i .i64 e, .i .i64 a] ∧ f (j, s, p, e, a) = some b := by
 obtain ⟨⟨j, s, p, e, a⟩, h1, h2⟩ := Option.bind_eq_some_iff.1 q
 obtain ⟨⟨m, hm⟩, hc⟩ := YQu h1
 exact ⟨j, s, p, e, a, ⟨m, hm⟩, by unfold Za2; rw [hm], hc, h2⟩
theorem Jqz {h : List AB} (hh : HOk h) {i j : Nat} {s : AV} {p : Int} {m : Bool} (q : h[i]? = some (.blk false m [.p j 0, s, .i .i64 p])) : s.ok (fun k => decide (k < h.length)) = true := by
 have := hh i _ q
 simp only [AB.ok, JjX, Bool.and_eq_true] at this
 exact this.2.1
def XRU : List AV → List AB → Option (AV × List AB)
 | [.p i 0], h => (rdr h i).bind fun x => some (.i .i64 (if x.2.2.2.1 = 0 then x.2.2.1 else 0), h)
 | _, _ => none
theorem YMs : Spec Try.prog 86 XRU := by
 intro args h v h' e
 unfold XRU at e
 split at e
 ·rename_i i
  obtain ⟨j, s, p, er, a, ⟨m, hi⟩, hb, hc, e⟩ := qRo e
  cases e
  refine FnAt.c (FnAt.run (by kernel_rfl) (T := ⟨[⟨77, XHU, fun _ => []⟩], []⟩) ⟨⟨JH2, trivial⟩, trivial⟩ Try.func86 sw86 fun ho hh => ?_)
  have f1 := Yx2 hb
  have f2 := Yx2 hc
  unfold w86
  by_cases g : er = 0
  ·have g' := eq_true g
   simp only [JaG, Qv6, Zsz, qtO, quq, simprocAttr, CO.tmps, Opd.tmps, optT, Nat.reducePow, Nat.reduceDiv, Nat.reduceMod, f1, f2, g', XHU, zoX, List.getElem?_cons_zero, List.getElem?_cons_succ]
   exact Bt.drop _ hh rfl rfl
  ·have g' := eq_false g
   simp only [JaG, Qv6, Zsz, qtO, quq, simprocAttr, CO.tmps, Opd.tmps, optT, Nat.reducePow, Nat.reduceDiv, Nat.reduceMod, f1, f2, g', XHU, zoX, List.getElem?_cons_zero, List.getElem?_cons_succ]
   exact Bt.drop _ hh rfl rfl
 ·cases e
noncomputable def YFm : List AV → List AB → Option (AV × List AB)
 | [.p i 0], h => (rdr h i).bind fun x => (getS Xdl h x.2.1).bind fun bs => if 0 ≤ x.2.2.1 ∧ x.2.2.1 ≤ bs.length then some (.i .i64 (qPL bs ⟨x.2.2.1.toNat, x.2.2.2.1, x.2.2.2.2⟩), h) else none
 | _, _ => none
theorem Zt9 : Spec Try.prog 69 YFm := by
 intro args h v h' e
 unfold YFm at e
 split at e
 ·rename_i i
  obtain ⟨j, s, p, er, a, ⟨m, hi⟩, hb, hc, e⟩ := qRo e
  dsimp only at e
  obtain ⟨bs, hs, e⟩ := Zly e
  split at e
  ·rename_i hp
   cases e
   obtain ⟨n, rfl⟩ := Int.eq_ofNat_of_zero_le hp.1
   refine FnAt.c (FnAt.run (by kernel_rfl) (T := ⟨[⟨77, XHU, fun _ => []⟩], []⟩) ⟨⟨JH2, trivial⟩, trivial⟩ Try.func69 sw69 fun ho hh => ?_)
   have f1 := Yx2 hb
   have f2 := Yx2 hc
   have f3 := hs.fx (Jqz hh hi) (sz := 1) rfl
   have hm := hs.2
   unfold w69
   by_cases g : er = 0
   ·have g' := eq_true g
    have e1 : IntKind.i64.wrap ((bs.length : Int) - (n : Int)) = (bs.length : Int) - n := KqM (by unfold maxLen at hm; unfold In64; omega)
    have hr : qPL bs ⟨n, er, a⟩ = (bs.length : Int) - n := by unfold qPL; rw [if_pos g]
    simp only [JaG, Qv6, Zsz, qtO, quq, simprocAttr, CO.tmps, Opd.tmps, optT, Nat.reducePow, Nat.reduceDiv, Nat.reduceMod, f1, f2, g', f3, XHU, zoX, e1, List.getElem?_cons_zero, List.getElem?_cons_succ]
    exact Bt.drop _ hh (congrArg (AV.i .i64) hr.symm) rfl
   ·have g' := eq_false g
    have hr : qPL bs ⟨n, er, a⟩ = 0 := by unfold qPL; rw [if_neg g]
    simp only [JaG, Qv6, Zsz, qtO, quq, simprocAttr, CO.tmps, Opd.tmps, optT, Nat.reducePow, Nat.reduceDiv, Nat.reduceMod, f1, f2, g', f3, XHU, zoX, List.getElem?_cons_zero, List.getElem?_cons_succ]
    exact Bt.drop _ hh (congrArg (AV.i .i64) hr.symm) rfl
  ·cases e
 ·cases e
end Go.Proofs.Ytpoojfnmhnedpaa
end
section
namespace Go.Proofs.Ytpoojfnmhnedpaa
set_option maxRecDepth 100000
set_option maxHeartbeats 4000000
theorem JBq {h : List AB} {i : Nat} {xs : List AV} (e : Za2 h i = some xs) : Za2 (h.map AB.freeze) i = some xs := by
 unfold Za2 at e ⊢
 rw [List.getElem?_map]
 cases hB : h[i]? with
 | none => rw [hB] at e; cases e
 | some B =>
  rw [hB] at e
  cases B <;> first | (cases e; done) | exact e
noncomputable def q5T : List AV → List AB → Option (AV × List AB)
 | [.p i 0], h => (rdr h i).bind fun x => (getS Xdl h x.2.1).bind fun bs => if 0 ≤ x.2.2.1 ∧ x.2.2.1 ≤ bs.length then some (.ag [.i .i64 (qSQ bs ⟨x.2.2.1.toNat, x.2.2.2.1, x.2.2.2.2⟩).1, .i .i64 (qSQ bs ⟨x.2.2.1.toNat, x.2.2.2.1, x.2.2.2.2⟩).2], h) else none
 | _, _ => none
theorem ZvR : Spec Try.prog 71 q5T := by
 intro args h v h' e
 unfold q5T at e
 split at e
 ·rename_i i
  obtain ⟨j, s, p, er, a, ⟨m, hi⟩, hb, hc, e⟩ := qRo e
  dsimp only at e
  obtain ⟨bs, hs, e⟩ := Zly e
  split at e
  ·rename_i hp
   cases e
   obtain ⟨n, rfl⟩ := Int.eq_ofNat_of_zero_le hp.1
   refine FnAt.c (FnAt.frz0 fun hz => ?_)
   replace hb := JBq hb
   replace hc := JBq hc
   replace hs := hs.frz
   replace hi : (h.map AB.freeze)[i]? = some (.blk false false [.p j 0, s, .i .i64 (n : Int)]) := by rw [List.getElem?_map, hi]; rfl
   generalize h.map AB.freeze = h at *
   refine (FnAt.run (by kernel_rfl) (T := ⟨[⟨58, ZJ7, fun _ => []⟩], []⟩) ⟨⟨YfC, trivial⟩, trivial⟩ Try.func71 sw71 fun ho hh => ?_)
   have f1 := Yx2 hb
   have f2 := Yx2 hc
   have f3 := hs.fx (Jqz hh hi) (sz := 1) rfl
   have hn : ((n : Int)).toNat = n := Int.toNat_natCast n
   unfold w71
   by_cases g : er = 0
   ·have g' := eq_true g
    by_cases q : n < bs.length
    ·have q' : ((n : Int) < (bs.length : Int)) = True := eq_true (by omega)
     have q2 := eq_true q
     have hr : qSQ bs ⟨n, er, a⟩ = (4, (n : Int)) := by unfold qSQ; rw [if_pos ⟨g, q⟩]
     simp only [hn, hr, JaG, Qv6, Zsz, qtO, quq, simprocAttr, CO.tmps, Opd.tmps, optT, Nat.reducePow, Nat.reduceDiv, Nat.reduceMod, f1, f2, f3, g', q', q2, ZJ7, qtq hh, Kxf hz, Xez hz, XWV hz, zoX, List.getElem?_cons_zero, List.getElem?_cons_succ, ne_eq, not_true_eq_false, decide_true, decide_false]
     exact Bt.drop _ hh rfl (by simp only [QxI, JjX, ZWl, ok_i, Bool.and_true])
    ·have q' : ((n : Int) < (bs.length : Int)) = False := eq_false (by omega)
     have q2 := eq_false q
     have hr : qSQ bs ⟨n, er, a⟩ = (er, a) := by unfold qSQ; rw [if_neg fun z => q z.2]
     simp only [hn, hr, JaG, Qv6, Zsz, qtO, quq, simprocAttr, CO.tmps, Opd.tmps, optT, Nat.reducePow, Nat.reduceDiv, Nat.reduceMod, f1, f2, f3, g', q', q2, ZJ7, qtq hh, Kxf hz, Xez hz, XWV hz, zoX, List.getElem?_cons_zero, List.getElem?_cons_succ, ne_eq, not_true_eq_false, decide_true, decide_false]
     exact Bt.drop _ hh rfl (by simp only [QxI, JjX, ZWl, ok_i, Bool.and_true])
   ·have g' := eq_false g
    have hr : qSQ bs ⟨n, er, a⟩ = (er, a) := by unfold qSQ; rw [if_neg fun z => g z.1]
    simp only [hn, hr, JaG, Qv6, Zsz, qtO, quq, simprocAttr, CO.tmps, Opd.tmps, optT, Nat.reducePow, Nat.reduceDiv, Nat.reduceMod, f1, f2, f3, g', ZJ7, qtq hh, Kxf hz, Xez hz, XWV hz, zoX, List.getElem?_cons_zero, List.getElem?_cons_succ, ne_eq, not_false_eq_true, decide_true, decide_false]
    exact Bt.drop _ hh rfl (by simp only [QxI, JjX, ZWl, ok_i, Bool.and_true])
  ·cases e
 ·cases e
end Go.Proofs.Ytpoojfnmhnedpaa
end
section
namespace Go.Proofs.Ytpoojfnmhnedpaa
set_option maxRecDepth 100000
set_option maxHeartbeats 4000000
theorem Zs6 (l : List UInt8) : (Xdl.cells l).all (wrOk true) = true := by
 rw [Yq4, List.all_eq_true]
 intro a h
 obtain ⟨b, _, rfl⟩ := List.mem_map.1 h
 rfl
noncomputable def Q9d : List AV → List AB → Option (AV × List AB)
 | [a], h => (getS Xdl h a).bind fun xs => if xs.length ≤ 1000000 then some (rsl Xdl h.length xs, h ++ [resB Xdl true xs]) else none
 | _, _ => none
theorem Y8R (h : List AB) (xs : List UInt8) (h0 : xs.length = 0) : FnC Try.prog 59 [.se] h (rsl Xdl h.length xs) (h ++ [resB Xdl true xs]) := by
 refine FnAt.c (FnAt.run (by kernel_rfl) (T := ⟨[], []⟩) ⟨trivial, trivial⟩ Try.func59 sw59 fun ho hh => ?_)
 have fs : ∀ x : List AB, srcV (h ++ x) 1 .se = some (0, []) := fun _ => rfl
 unfold w59
 simp only [JaG, Qv6, Zsz, quq, simprocAttr, fs, Zs6]
 exact Bt.one 0 hh (fun _ => Wk.empty _ _ _ _ _ _) (by simp) (fun h => absurd h0 h)
theorem QnJ (h : List AB) (xs : List UInt8) (h0 : xs.length = 0) : FnC Try.prog 59 [.ns] h (rsl Xdl h.length xs) (h ++ [resB Xdl true xs]) := by
 refine FnAt.c (FnAt.run (by kernel_rfl) (T := ⟨[], []⟩) ⟨trivial, trivial⟩ Try.func59 sw59 fun ho hh => ?_)
 unfold w59
 simp only [JaG, Qv6, Zsz, quq, simprocAttr]
 exact Bt.one0 h0 (Wk.nil _ _)
theorem Yhj : Spec Try.prog 59 Q9d := by
 intro args h v h' e
 unfold Q9d at e
 split at e
 ·rename_i a
  obtain ⟨xs, ha, e⟩ := Zly e
  split at e
  ·rename_i hl
   cases e
   by_cases hk : ∃ id off cap, a = .sl id off 0 cap (some 0)
   ·obtain ⟨id, off, cap, rfl⟩ := hk
    have h0 : xs.length = 0 := by have := ha.len; simp only [lenV, Option.some.injEq] at this; omega
    exact FnC.empty1 (QnJ h xs h0) (Y8R h xs h0)
   have hs := ha.isSl
   have hlen := ha.len
   cases a <;> first | (cases hs; done) | skip
   ·rename_i id off len cap k
    have hq : Jx6 (.sl id off len cap k) .ns = some false := by
     rw [ZVu, if_neg]
     rintro ⟨rfl, rfl⟩
     exact hk ⟨_, _, _, rfl⟩
    refine FnAt.c (FnAt.run (by kernel_rfl) (T := ⟨[], []⟩) ⟨trivial, trivial⟩ Try.func59 sw59 fun ho hh => ?_)
    simp only [JjX, Bool.and_eq_true] at ho
    have fa := ha.fx ho.1 (sz := 1) rfl
    have fs := ha.src (sz := 1) rfl
    unfold w59
    by_cases h0 : xs.length = 0
    ·simp only [JaG, Qv6, Zsz, quq, simprocAttr, fa, fs, h0, hq, Zs6]
     exact Bt.one 0 hh (fun _ => Wk.empty _ _ _ _ _ _) (by simp) (fun h => absurd h0 h)
    ·simp only [JaG, Qv6, Zsz, quq, simprocAttr, fa, fs, h0, hq, Zs6]
     exact ⟨⟨by omega, by unfold maxLen; omega⟩, Bt.one 1 hh (fun h => absurd h h0) (by simp) (fun _ => ⟨rfl, rfl⟩)⟩
   ·exact Y8R h xs (by simp only [lenV, Option.some.injEq] at hlen; omega)
   ·exact QnJ h xs (by simp only [lenV, Option.some.injEq] at hlen; omega)
  ·cases e
 ·cases e
noncomputable def KOQ : List AV → List AB → Option (AV × List AB)
 | [a], h => (getS Xdl h a).bind fun xs => if xs.length ≤ 1000000 then some (.p h.length 0, h ++ [.blk false true [.p (h.length + 1) 0, rsl Xdl (h.length + 2) xs, .i .i64 0], .blk true true [.i .i64 0, .i .i64 0], resB Xdl true xs]) else none
 | _, _ => none
theorem KJB : Spec Try.prog 49 KOQ := by
 intro args h v h' e
 unfold KOQ at e
 split at e
 ·rename_i a
  obtain ⟨xs, ha, e⟩ := Zly e
  split at e
  ·rename_i hl
   cases e
   refine FnAt.c (FnAt.frz fun hz => ?_)
   rw [show h.length = (h.map AB.freeze).length from (List.length_map _).symm]
   replace ha := ha.frz
   generalize h.map AB.freeze = h at *
   refine FnAt.run (by kernel_rfl) (T := ⟨[⟨59, Q9d, fun _ => []⟩], []⟩) ⟨⟨Yhj, trivial⟩, trivial⟩ Try.func49 sw49 fun ho hh => ?_
   simp only [JjX, Bool.and_eq_true] at ho
   have fa := ha.fx ho.1 (sz := 1) rfl
   have l1 := eq_true hl
   unfold w49
   simp only [JaG, Qv6, Zsz, qtO, quq, simprocAttr, CO.tmps, Opd.tmps, optT, Nat.reducePow, Nat.reduceDiv, Nat.reduceMod, fa, l1, Q9d, qtq hh, Kxf hz, Xez hz, XWV hz]
   exact Bt.sel [2, 0, 1] hh (by decide) (by simp only [YmE, FrSel, BlkSel, AV.ren, renL, AV.ok, okL, Option.some.injEq, exists_eq_left', List.length_cons, List.length_nil, Nat.reduceAdd, Nat.reduceLT, reduceCtorEq, implies_true, exists_eq', QtM, Jg8]) (by simp only [YmE, FrSel, BlkSel, AV.ren, renL, AV.ok, okL, Option.some.injEq, exists_eq_left', List.length_cons, List.length_nil, Nat.reduceAdd, Nat.reduceLT, reduceCtorEq, implies_true, exists_eq'])
  ·cases e
 ·cases e
end Go.Proofs.Ytpoojfnmhnedpaa
end
