/- Part 20 of what the laws' proofs rest on. No condition. -/
import Derived.Laws.RangeAny
import Derived.Test.YtebcngelgdpbjaaGreatGq19
set_option linter.all false
namespace Go.Proofs.YtebcngelgdpbjaaGreat
section
set_option maxRecDepth 100000
noncomputable def w179:CF:=(KVl Tryz.prog Tryz.f179).getD ⟨0,[],.ret⟩
theorem J98:KVl Tryz.prog Tryz.f179=some w179:=by kernel_rfl
def w180:CF:=⟨13,[.cell 4 (some 2),.t 5],.seq (.reg 0 [oO 4 (.new true [.i .i64 0,.i .i64 0]),oO 5 (.mv (.c (.b false)))]) (.seq (.seq (.reg 1 [oM 6 0,oO 7 (.len true (.t 6)),oM 8 1,oO 9 (.bin .gtr (.t 7) (.t 8))]) (.cond (.t 9) (.seq (.reg 2 [oM 10 1,oO 11 (.bld [.i .i64 0,.i .i64 0] [(0,1,.c (.i .i64 4)),(1,1,.t 10)]),⟨none,none,.st (some 2) (.t 4) (.t 11)⟩,oO 5 (.mv (.c (.b true)))]) .ret) .skip)) (.seq (.reg 3 [oO 12 (.bld [.i .i64 0,.i .i64 0] []),⟨none,none,.st (some 2) (.t 4) (.t 12)⟩,oO 5 (.mv (.c (.b false)))]) .ret))⟩
theorem zH7:KVl Tryz.prog Tryz.f180=some w180:=by kernel_rfl
def w181:CF:=⟨14,[.t 2],.seq (.reg 0 [oO 2 (.mv (.c .np))]) (.seq (.seq (.reg 1 [oM 3 0,oO 4 (.bin .neq (.t 3) (.c (.i .i32 46))),oM 5 4,oT 6 5 (.mv (.t 0)),oT 7 5 (.bin .neq (.t 6) (.c (.i .i32 45))),oO 8 (.pick (.t 5) (.t 7) (.c (.b false))),oM 9 8,oT 10 9 (.mv (.t 0)),oT 11 9 (.call (.c (.f (.func 182) [] [])) [.t 10]),oO 12 (.pick (.t 9) (.t 11) (.c (.b false)))]) (.cond (.t 12) (.seq (.reg 2 [oO 13 (.call (.c (.f (.func 183) [] [])) [.c (.f (.func 182) [] [])]),oM 2 13]) .ret) .skip)) (.seq (.reg 3 [oO 2 (.mv (.c .np))]) .ret))⟩
theorem KCg:KVl Tryz.prog Tryz.f181=some w181:=by kernel_rfl
def w182:CF:=⟨25,[.t 2],.seq (.reg 0 [oO 2 (.mv (.c (.b false)))]) (.seq (.reg 1 [oM 3 0,oO 4 (.call (.c (.f (.func 224) [] [])) [.t 3]),oM 5 4,oF 6 5 (.mv (.t 0)),oF 7 5 (.bin .geq (.t 6) (.c (.i .i32 65))),oF 8 5 (.mv (.t 7)),oT 9 8 (.mv (.t 0)),oT 10 8 (.bin .leq (.t 9) (.c (.i .i32 90))),oF 11 5 (.pick (.t 8) (.t 10) (.c (.b false))),oO 12 (.pick (.t 5) (.c (.b true)) (.t 11)),oM 13 12,oF 14 13 (.mv (.t 0)),oF 15 13 (.bin .eql (.t 14) (.c (.i .i32 95))),oO 16 (.pick (.t 13) (.c (.b true)) (.t 15)),oM 17 16,oF 18 17 (.mv (.t 0)),oF 19 17 (.bin .eql (.t 18) (.c (.i .i32 46))),oO 20 (.pick (.t 17) (.c (.b true)) (.t 19)),oM 21 20,oF 22 21 (.mv (.t 0)),oF 23 21 (.bin .eql (.t 22) (.c (.i .i32 45))),oO 24 (.pick (.t 21) (.c (.b true)) (.t 23)),oM 2 24]) .ret)⟩
theorem Kg1:KVl Tryz.prog Tryz.f182=some w182:=by kernel_rfl
def w183:CF:=⟨8,[.t 2],.seq (.reg 0 [oO 1 (.box false 1 (.t 0)),oO 2 (.mv (.c .np))]) (.seq (.reg 1 [oO 3 (.new false [.np])]) (.seq (.reg 2 [oO 4 (.mkf (.func 225) [] [.t 1,.t 3]),oO 5 (.bld [.nf,.b false] [(0,1,.t 4),(1,1,.c (.b true))]),oO 6 (.box false 2 (.t 5)),⟨none,none,.st none (.t 3) (.t 6)⟩]) (.seq (.reg 3 [oO 7 (.ld none (.t 3)),oM 2 7]) .ret)))⟩
theorem KMa:KVl Tryz.prog Tryz.f183=some w183:=by kernel_rfl
def w184:CF:=⟨36,[.cell 6 (some 2)],.seq (.reg 0 [oO 6 (.new true [.i .i64 0,.i .i64 0])]) (.seq (.seq (.reg 1 [oM 9 0,oO 10 (.rng (.t 9))]) (.block 0 (.loop (.seq (.reg 2 [oO 11 (.nxt (.t 10)),oO 12 (.ext (.t 11) 0)]) (.seq (.cond (.t 12) .skip (.exit 0)) (.block 1 (.seq (.reg 3 [oO 13 (.ext (.t 11) 1),oO 14 (.ext (.t 11) 2),oM 7 13,oM 8 14]) (.seq (.reg 4 [oM 15 1,oO 16 (.nck (.t 15)),oO 17 (.fad 0 (.t 16)),oO 18 (.ld none (.t 17)),oM 19 8,oO 20 (.call (.t 18) [.t 19]),oM 1 20]) (.seq (.reg 5 [oM 21 1,oO 22 (.eqn false (.t 21) (.c .np))]) (.cond (.t 22) (.seq (.reg 6 [oM 23 2,oM 24 7,oO 25 (.bld [.i .i64 0,.i .i64 0] [(0,1,.t 23),(1,1,.t 24)]),⟨none,none,.st (some 2) (.t 6) (.t 25)⟩]) .ret) .skip)))))))))) (.seq (.seq (.reg 7 [oM 26 1,oO 27 (.nck (.t 26)),oO 28 (.fad 1 (.t 27)),oO 29 (.ld none (.t 28)),oO 30 (.un .not (.t 29))]) (.cond (.t 30) (.seq (.reg 8 [oM 31 2,oM 32 0,oO 33 (.len true (.t 32)),oO 34 (.bld [.i .i64 0,.i .i64 0] [(0,1,.t 31),(1,1,.t 33)]),⟨none,none,.st (some 2) (.t 6) (.t 34)⟩]) .ret) .skip)) (.seq (.reg 9 [oO 35 (.bld [.i .i64 0,.i .i64 0] []),⟨none,none,.st (some 2) (.t 6) (.t 35)⟩]) .ret)))⟩
theorem zjP:KVl Tryz.prog Tryz.f184=some w184:=by kernel_rfl
def w185:CF:=⟨7,[.t 2],.seq (.reg 0 [oO 1 (.box true 1 (.t 0)),oO 2 (.mv (.c .np))]) (.seq (.reg 1 [oO 3 (.ld (some 1) (.t 1)),oO 4 (.mkf (.func 226) [.t 3] []),oO 5 (.bld [.nf,.b false] [(0,1,.t 4)]),oO 6 (.box false 2 (.t 5)),oM 2 6]) .ret)⟩
theorem Ksm:KVl Tryz.prog Tryz.f185=some w185:=by kernel_rfl
def w194:CF:=⟨19,[.t 4],.seq (.reg 0 [oO 4 (.mv (.c (.i .i64 0)))]) (.seq (.seq (.reg 1 [oM 6 0,oO 7 (.len false (.t 6)),oO 8 (.mv (.c (.i .i64 0)))]) (.block 0 (.loop (.seq (.reg 2 [oO 9 (.bin .lss (.t 8) (.t 7))]) (.seq (.cond (.t 9) .skip (.exit 0)) (.seq (.block 1 (.seq (.reg 3 [oM 10 8,oM 5 10]) (.seq (.reg 4 [oM 11 1,oM 12 0,oM 13 5,oO 14 (.iad 1 (.t 12) (.t 13)),oO 15 (.ld none (.t 14)),oO 16 (.call (.t 11) [.t 15])]) (.cond (.t 16) (.seq (.reg 5 [oM 17 5,oM 4 17]) .ret) .skip)))) (.reg 6 [oO 18 (.bin .add (.t 8) (.c (.i .i64 1))),oM 8 18]))))))) (.seq (.reg 7 [oO 4 (.mv (.c (.i .i64 (-1))))]) .ret))⟩
theorem q5w:KVl Tryz.prog Tryz.f194=some w194:=by kernel_rfl
def w195:CF:=⟨25,[],.seq (.reg 0 [oO 5 (.ld none (.t 1)),oO 6 (.len false (.t 5)),oO 7 (.ld none (.t 2)),oO 8 (.len false (.t 7)),oO 9 (.mm true (.t 6) (.t 8)),oO 10 (.mv (.c (.i .i64 0)))]) (.block 0 (.loop (.seq (.reg 1 [oO 11 (.bin .lss (.t 10) (.t 9))]) (.seq (.cond (.t 11) .skip (.exit 0)) (.seq (.block 1 (.seq (.reg 2 [oM 12 10,oM 4 12]) (.seq (.drw 3 [⟨oM 13 0,0,1⟩,⟨oO 14 (.ld none (.t 1)),0,2⟩,⟨oM 15 4,0,16⟩,⟨oO 16 (.bin .add (.t 15) (.c (.i .i64 1))),4,32768⟩,⟨oO 17 (.call (.c (.f (.func 93) [] [])) [.t 14,.t 16]),14,81920⟩,⟨oO 18 (.ld none (.t 2)),0,4⟩,⟨oM 19 4,0,16⟩,⟨oO 20 (.bin .add (.t 19) (.c (.i .i64 1))),64,524288⟩,⟨oO 21 (.call (.c (.f (.func 93) [] [])) [.t 18,.t 20]),254,1310720⟩,⟨oO 22 (.call (.t 13) [.t 17,.t 21]),511,2236416⟩,⟨oO 23 (.un .not (.t 22)),1023,4194304⟩]) (.cond (.t 23) .ret .skip)))) (.reg 4 [oO 24 (.bin .add (.t 10) (.c (.i .i64 1))),oM 10 24]))))))⟩
theorem XkX:KVl Tryz.prog Tryz.f195=some w195:=by kernel_rfl
noncomputable def w196:CF:=(KVl Tryz.prog Tryz.f196).getD ⟨0,[],.ret⟩
theorem Jtm:KVl Tryz.prog Tryz.f196=some w196:=by kernel_rfl
def w197:CF:=⟨38,[.t 8],.seq (.reg 0 [oO 4 (.box true 2 (.t 0)),oO 6 (.box true 2 (.t 2)),oO 8 (.mv (.c (.b false)))]) (.seq (.reg 1 [oM 11 1,oO 12 (.call (.c (.f (.func 235) [] [])) [.t 11]),oM 13 3,oO 14 (.call (.c (.f (.func 235) [] [])) [.t 13]),oM 9 12,oM 10 14]) (.seq (.block 0 (.seq (.reg 2 [oM 16 9,oM 17 10,oO 18 (.bin .neq (.t 16) (.t 17)),oM 15 18]) (.cond (.t 15) (.seq (.reg 3 [oM 19 9,oM 20 10,oO 21 (.bin .lss (.t 19) (.t 20)),oM 8 21]) .ret) (.seq (.reg 4 [oO 23 (.fad 0 (.t 4)),oO 24 (.ld none (.t 23)),oO 25 (.fad 0 (.t 6)),oO 26 (.ld none (.t 25)),oO 27 (.bin .neq (.t 24) (.t 26)),oM 22 27]) (.cond (.t 22) (.seq (.reg 5 [oO 28 (.fad 0 (.t 4)),oO 29 (.ld none (.t 28)),oO 30 (.fad 0 (.t 6)),oO 31 (.ld none (.t 30)),oO 32 (.bin .lss (.t 29) (.t 31)),oM 8 32]) .ret) .skip))))) (.seq (.reg 6 [oO 33 (.fad 1 (.t 4)),oO 34 (.ld none (.t 33)),oO 35 (.fad 1 (.t 6)),oO 36 (.ld none (.t 35)),oO 37 (.bin .lss (.t 34) (.t 36)),oM 8 37]) .ret)))⟩
theorem Yoa:KVl Tryz.prog Tryz.f197=some w197:=by kernel_rfl
def w198:CF:=⟨13,[.t 4],.seq (.reg 0 [oO 2 (.box false 1 (.t 0)),oO 4 (.mv (.c .ns))]) (.seq (.seq (.reg 1 [oM 6 1]) (.block 0 (.rf (.t 6) [7] (.reg 2 [oO 5 (.new true [.i .i64 0,.i .i64 0]),⟨none,none,.st (some 2) (.t 5) (.t 7)⟩]) (.block 1 (.reg 3 [oO 8 (.ld none (.t 2)),oO 9 (.ld (some 2) (.t 5)),oO 10 (.bls true 1 [.i .i64 0,.i .i64 0] [(0,2,.t 9)]),oO 11 (.app false true 2 16 (.t 8) (.t 10)),⟨none,none,.st none (.t 2) (.t 11)⟩]))))) (.seq (.reg 4 [oO 12 (.ld none (.t 2)),oM 4 12]) .ret))⟩
theorem q1e:KVl Tryz.prog Tryz.f198=some w198:=by kernel_rfl
def w200:CF:=⟨6,[.t 2],.seq (.reg 0 [oO 2 (.mv (.c (.b false)))]) (.seq (.reg 1 [oM 3 0,oM 4 0,oO 5 (.bin .neq (.t 3) (.t 4)),oM 2 5]) .ret)⟩
theorem X72:KVl Tryz.prog Tryz.f200=some w200:=by kernel_rfl
def w201:CF:=⟨18,[.t 6],.seq (.reg 0 [oO 4 (.box true 1 (.t 1)),oO 5 (.box false 1 (.t 2)),oO 6 (.mv (.c (.i .i64 0)))]) (.seq (.seq (.reg 1 [oM 9 0]) (.block 0 (.rf (.t 9) [10,11] (.seq (.reg 2 [oM 7 10]) (.reg 3 [oM 8 11])) (.block 1 (.reg 4 [oO 12 (.ld none (.t 5)),oO 13 (.ld none (.t 4)),oM 14 7,oM 15 8,oO 16 (.call (.t 12) [.t 13,.t 14,.t 15]),⟨none,none,.st none (.t 4) (.t 16)⟩]))))) (.seq (.reg 5 [oO 17 (.ld none (.t 4)),oM 6 17]) .ret))⟩
theorem KOX:KVl Tryz.prog Tryz.f201=some w201:=by kernel_rfl
def w202:CF:=⟨13,[.t 6],.seq (.reg 0 [oO 6 (.mv (.c (.i .i64 0)))]) (.seq (.reg 1 [oM 7 0,oM 8 1,oM 9 0,oO 10 (.bin .sub (.c (.i .i64 4611686018427387904)) (.t 9)),oO 11 (.mm false (.t 8) (.t 10)),oO 12 (.bin .add (.t 7) (.t 11)),oM 6 12]) .ret)⟩
theorem JfB:KVl Tryz.prog Tryz.f202=some w202:=by kernel_rfl
def w210:CF:=⟨53,[],.seq (.reg 0 [oM 10 1,oO 11 (.bin .add (.t 10) (.c (.i .i64 1))),oM 8 11]) (.block 0 (.loop (.seq (.seq (.reg 1 [oM 12 8,oM 13 2,oO 14 (.bin .lss (.t 12) (.t 13))]) (.cond (.t 14) .skip (.exit 0))) (.seq (.block 1 (.seq (.reg 3 [oM 17 8,oM 9 17]) (.block 2 (.loop (.seq (.seq (.drw 4 [⟨oM 18 9,0,512⟩,⟨oM 19 1,0,2⟩,⟨oO 20 (.bin .gtr (.t 18) (.t 19)),3,786432⟩,⟨oM 21 20,7,1048576⟩,⟨oT 22 21 (.mv (.t 3)),15,2097160⟩,⟨oT 23 21 (.mv (.t 0)),15,2097153⟩,⟨oT 24 21 (.mv (.t 9)),15,2097664⟩,⟨oT 25 21 (.iad 39 (.t 23) (.t 24)),111,27262976⟩,⟨oT 26 21 (.ld (some 39) (.t 25)),239,35651584⟩,⟨oT 27 21 (.mv (.t 0)),15,2097153⟩,⟨oT 28 21 (.mv (.t 9)),15,2097664⟩,⟨oT 29 21 (.bin .sub (.t 28) (.c (.i .i64 1))),1039,270532608⟩,⟨oT 30 21 (.iad 39 (.t 27) (.t 29)),3599,673185792⟩,⟨oT 31 21 (.ld (some 39) (.t 30)),7695,1075838976⟩,⟨oT 32 21 (.call (.t 22) [.t 26,.t 31]),16383,2220883968⟩,⟨oT 33 21 (.bin .lss (.t 32) (.c (.i .i64 0))),32767,4297064448⟩,⟨oO 34 (.pick (.t 21) (.t 33) (.c (.b false))),65535,8592031744⟩]) (.cond (.t 34) .skip (.exit 2))) (.seq (.block 3 (.drw 6 [⟨oM 37 0,0,1⟩,⟨oM 38 9,0,512⟩,⟨oM 39 0,0,1⟩,⟨oM 40 9,0,512⟩,⟨oO 41 (.bin .sub (.t 40) (.c (.i .i64 1))),8,1099511627776⟩,⟨oM 42 0,0,1⟩,⟨oM 43 9,0,512⟩,⟨oO 44 (.bin .sub (.t 43) (.c (.i .i64 1))),64,8796093022208⟩,⟨oO 45 (.iad 39 (.t 42) (.t 44)),224,21990232555520⟩,⟨oO 46 (.ld (some 39) (.t 45)),480,35184372088832⟩,⟨oM 47 0,0,1⟩,⟨oM 48 9,0,512⟩,⟨oO 49 (.iad 39 (.t 47) (.t 48)),3072,422212465065984⟩,⟨oO 50 (.ld (some 39) (.t 49)),7168,562949953421312⟩,⟨oO 51 (.iad 39 (.t 37) (.t 38)),16355,412316860416⟩,⟨⟨none,none,.st (some 39) (.t 51) (.t 46)⟩,32739,2322168557862912⟩,⟨oO 52 (.iad 39 (.t 39) (.t 41)),65535,2748779069440⟩,⟨⟨none,none,.st (some 39) (.t 52) (.t 50)⟩,131071,5629499534213120⟩])) (.reg 5 [oM 35 9,oO 36 (.bin .sub (.t 35) (.c (.i .i64 1))),oM 9 36]))))))) (.reg 2 [oM 15 8,oO 16 (.bin .add (.t 15) (.c (.i .i64 1))),oM 8 16])))))⟩
theorem zsC:KVl Tryz.prog Tryz.f210=some w210:=by kernel_rfl
noncomputable def w211:CF:=(KVl Tryz.prog Tryz.f211).getD ⟨0,[],.ret⟩
theorem Q2h:KVl Tryz.prog Tryz.f211=some w211:=by kernel_rfl
noncomputable def w222:CF:=(KVl Tryz.prog Tryz.f222).getD ⟨0,[],.ret⟩
theorem JL3:KVl Tryz.prog Tryz.f222=some w222:=by kernel_rfl
noncomputable def w223:CF:=(KVl Tryz.prog Tryz.f223).getD ⟨0,[],.ret⟩
theorem QVg:KVl Tryz.prog Tryz.f223=some w223:=by kernel_rfl
def w224:CF:=⟨17,[.t 2],.seq (.reg 0 [oO 2 (.mv (.c (.b false)))]) (.seq (.reg 1 [oM 3 0,oO 4 (.bin .geq (.t 3) (.c (.i .i32 97))),oM 5 4,oT 6 5 (.mv (.t 0)),oT 7 5 (.bin .leq (.t 6) (.c (.i .i32 122))),oO 8 (.pick (.t 5) (.t 7) (.c (.b false))),oM 9 8,oF 10 9 (.mv (.t 0)),oF 11 9 (.bin .geq (.t 10) (.c (.i .i32 48))),oF 12 9 (.mv (.t 11)),oT 13 12 (.mv (.t 0)),oT 14 12 (.bin .leq (.t 13) (.c (.i .i32 57))),oF 15 9 (.pick (.t 12) (.t 14) (.c (.b false))),oO 16 (.pick (.t 9) (.c (.b true)) (.t 15)),oM 2 16]) .ret)⟩
theorem zdu:KVl Tryz.prog Tryz.f224=some w224:=by kernel_rfl
def w225:CF:=⟨9,[.t 4],.seq (.reg 0 [oO 4 (.mv (.c .np))]) (.seq (.seq (.reg 1 [oO 5 (.ld none (.t 1)),oM 6 0,oO 7 (.call (.t 5) [.t 6])]) (.cond (.t 7) (.seq (.reg 2 [oO 8 (.ld none (.t 2)),oM 4 8]) .ret) .skip)) (.seq (.reg 3 [oO 4 (.mv (.c .np))]) .ret))⟩
theorem Jmz:KVl Tryz.prog Tryz.f225=some w225:=by kernel_rfl
def w226:CF:=⟨11,[.t 4],.seq (.reg 0 [oO 2 (.box true 1 (.t 0)),oO 4 (.mv (.c .np))]) (.seq (.seq (.reg 1 [oM 5 1,oO 6 (.call (.c (.f (.func 224) [] [])) [.t 5])]) (.cond (.t 6) (.seq (.reg 2 [oO 7 (.ld (some 1) (.t 2)),oO 8 (.mkf (.func 255) [.t 7] []),oO 9 (.bld [.nf,.b false] [(0,1,.t 8),(1,1,.c (.b true))]),oO 10 (.box false 2 (.t 9)),oM 4 10]) .ret) .skip)) (.seq (.reg 3 [oO 4 (.mv (.c .np))]) .ret))⟩
theorem XZI:KVl Tryz.prog Tryz.f226=some w226:=by kernel_rfl
noncomputable def w227:CF:=(KVl Tryz.prog Tryz.f227).getD ⟨0,[],.ret⟩
theorem YpL:KVl Tryz.prog Tryz.f227=some w227:=by kernel_rfl
noncomputable def w228:CF:=(KVl Tryz.prog Tryz.f228).getD ⟨0,[],.ret⟩
theorem qz2:KVl Tryz.prog Tryz.f228=some w228:=by kernel_rfl
noncomputable def w229:CF:=(KVl Tryz.prog Tryz.f229).getD ⟨0,[],.ret⟩
theorem YED:KVl Tryz.prog Tryz.f229=some w229:=by kernel_rfl
noncomputable def w230:CF:=(KVl Tryz.prog Tryz.f230).getD ⟨0,[],.ret⟩
theorem zFC:KVl Tryz.prog Tryz.f230=some w230:=by kernel_rfl
noncomputable def w231:CF:=(KVl Tryz.prog Tryz.f231).getD ⟨0,[],.ret⟩
theorem Jfx:KVl Tryz.prog Tryz.f231=some w231:=by kernel_rfl
noncomputable def w232:CF:=(KVl Tryz.prog Tryz.f232).getD ⟨0,[],.ret⟩
theorem K3M:KVl Tryz.prog Tryz.f232=some w232:=by kernel_rfl
noncomputable def w233:CF:=(KVl Tryz.prog Tryz.f233).getD ⟨0,[],.ret⟩
theorem YPG:KVl Tryz.prog Tryz.f233=some w233:=by kernel_rfl
noncomputable def w234:CF:=(KVl Tryz.prog Tryz.f234).getD ⟨0,[],.ret⟩
theorem qzt:KVl Tryz.prog Tryz.f234=some w234:=by kernel_rfl
def w235:CF:=⟨23,[.t 2],.seq (.reg 0 [oO 2 (.mv (.c (.i .i64 0)))]) (.seq (.reg 1 [oO 3 (.mv (.c (.i .i64 0)))]) (.seq (.seq (.reg 2 [oO 4 (.mv (.c (.i .i64 1)))]) (.block 0 (.loop (.seq (.seq (.reg 3 [oM 6 4,oM 7 0,oO 8 (.len false (.t 7)),oO 9 (.bin .leq (.t 6) (.t 8))]) (.cond (.t 9) .skip (.exit 0))) (.seq (.block 1 (.seq (.reg 5 [oM 12 0,oM 13 4,oO 14 (.call (.c (.f (.func 144) [] [])) [.t 12,.t 13]),oM 5 14]) (.seq (.seq (.reg 6 [oM 15 5,oM 16 3,oO 17 (.bin .sub (.c (.i .i64 4611686018427387904)) (.t 16)),oO 18 (.bin .gtr (.t 15) (.t 17))]) (.cond (.t 18) (.seq (.reg 7 [oO 2 (.mv (.c (.i .i64 4611686018427387904)))]) .ret) .skip)) (.reg 8 [oM 19 3,oM 20 5,oO 21 (.bin .add (.t 19) (.t 20)),oM 3 21])))) (.reg 4 [oM 10 4,oO 11 (.bin .add (.t 10) (.c (.i .i64 1))),oM 4 11])))))) (.seq (.reg 9 [oM 22 3,oM 2 22]) .ret)))⟩
theorem Juw:KVl Tryz.prog Tryz.f235=some w235:=by kernel_rfl
noncomputable def w248:CF:=(KVl Tryz.prog Tryz.f248).getD ⟨0,[],.ret⟩
theorem Z7i:KVl Tryz.prog Tryz.f248=some w248:=by kernel_rfl
noncomputable def w251:CF:=(KVl Tryz.prog Tryz.f251).getD ⟨0,[],.ret⟩
theorem Yxl:KVl Tryz.prog Tryz.f251=some w251:=by kernel_rfl
noncomputable def w252:CF:=(KVl Tryz.prog Tryz.f252).getD ⟨0,[],.ret⟩
theorem X9X:KVl Tryz.prog Tryz.f252=some w252:=by kernel_rfl
def w255:CF:=⟨42,[.t 4],.seq (.reg 0 [oO 2 (.box true 1 (.t 0)),oO 4 (.mv (.c .np))]) (.seq (.block 0 (.seq (.reg 1 [oM 6 1,oO 7 (.bin .eql (.t 6) (.c (.i .i32 47))),oM 8 7,oT 9 8 (.fad 0 (.t 2)),oT 10 8 (.ld none (.t 9)),oT 11 8 (.bin .gtr (.t 10) (.c (.i .i64 0))),oO 12 (.pick (.t 8) (.t 11) (.c (.b false))),oM 5 12]) (.cond (.t 5) (.seq (.reg 2 [oO 13 (.fad 0 (.t 2)),oO 14 (.ld none (.t 13)),oO 15 (.bin .sub (.t 14) (.c (.i .i64 1))),oO 16 (.bld [.i .i64 0] [(0,1,.t 15)]),oO 17 (.call (.c (.f (.func 185) [] [])) [.t 16]),oM 4 17]) .ret) (.seq (.reg 3 [oM 19 1,oO 20 (.bin .eql (.t 19) (.c (.i .i32 46))),oM 18 20]) (.cond (.t 18) (.seq (.reg 4 [oO 21 (.ld (some 1) (.t 2)),oO 22 (.mkf (.func 226) [.t 21] []),oO 23 (.bld [.nf,.b false] [(0,1,.t 22)]),oO 24 (.box false 2 (.t 23)),oM 4 24]) .ret) (.seq (.reg 5 [oM 26 1,oO 27 (.bin .eql (.t 26) (.c (.i .i32 95))),oM 25 27]) (.cond (.t 25) (.seq (.reg 6 [oO 28 (.ld (some 1) (.t 2)),oO 29 (.mkf (.func 267) [.t 28] []),oO 30 (.bld [.nf,.b false] [(0,1,.t 29)]),oO 31 (.box false 2 (.t 30)),oM 4 31]) .ret) (.seq (.reg 7 [oM 33 1,oO 34 (.bin .eql (.t 33) (.c (.i .i32 45))),oM 32 34]) (.cond (.t 32) (.seq (.reg 8 [oO 35 (.ld (some 1) (.t 2)),oO 36 (.mkf (.func 268) [.t 35] []),oO 37 (.bld [.nf,.b false] [(0,1,.t 36)]),oO 38 (.box false 2 (.t 37)),oM 4 38]) .ret) .skip))))))))) (.seq (.reg 9 [oO 39 (.ld (some 1) (.t 2)),oM 40 1,oO 41 (.call (.c (.f (.func 226) [] [])) [.t 39,.t 40]),oM 4 41]) .ret))⟩
theorem ZSs:KVl Tryz.prog Tryz.f255=some w255:=by kernel_rfl
noncomputable def w256:CF:=(KVl Tryz.prog Tryz.f256).getD ⟨0,[],.ret⟩
theorem ZBl:KVl Tryz.prog Tryz.f256=some w256:=by kernel_rfl
noncomputable def w257:CF:=(KVl Tryz.prog Tryz.f257).getD ⟨0,[],.ret⟩
theorem YOP:KVl Tryz.prog Tryz.f257=some w257:=by kernel_rfl
noncomputable def w258:CF:=(KVl Tryz.prog Tryz.f258).getD ⟨0,[],.ret⟩
theorem KzM:KVl Tryz.prog Tryz.f258=some w258:=by kernel_rfl
noncomputable def w265:CF:=(KVl Tryz.prog Tryz.f265).getD ⟨0,[],.ret⟩
theorem Z7y:KVl Tryz.prog Tryz.f265=some w265:=by kernel_rfl
def w267:CF:=⟨14,[.t 4],.seq (.reg 0 [oO 2 (.box true 1 (.t 0)),oO 4 (.mv (.c .np))]) (.seq (.seq (.reg 1 [oM 5 1,oO 6 (.bin .eql (.t 5) (.c (.i .i32 95)))]) (.cond (.t 6) (.seq (.reg 2 [oO 7 (.ld (some 1) (.t 2)),oO 8 (.mkf (.func 226) [.t 7] []),oO 9 (.bld [.nf,.b false] [(0,1,.t 8)]),oO 10 (.box false 2 (.t 9)),oM 4 10]) .ret) .skip)) (.seq (.reg 3 [oO 11 (.ld (some 1) (.t 2)),oM 12 1,oO 13 (.call (.c (.f (.func 226) [] [])) [.t 11,.t 12]),oM 4 13]) .ret))⟩
theorem Q1U:KVl Tryz.prog Tryz.f267=some w267:=by kernel_rfl
def w268:CF:=⟨14,[.t 4],.seq (.reg 0 [oO 2 (.box true 1 (.t 0)),oO 4 (.mv (.c .np))]) (.seq (.seq (.reg 1 [oM 5 1,oO 6 (.bin .eql (.t 5) (.c (.i .i32 45)))]) (.cond (.t 6) (.seq (.reg 2 [oO 7 (.ld (some 1) (.t 2)),oO 8 (.mkf (.func 268) [.t 7] []),oO 9 (.bld [.nf,.b false] [(0,1,.t 8)]),oO 10 (.box false 2 (.t 9)),oM 4 10]) .ret) .skip)) (.seq (.reg 3 [oO 11 (.ld (some 1) (.t 2)),oM 12 1,oO 13 (.call (.c (.f (.func 226) [] [])) [.t 11,.t 12]),oM 4 13]) .ret))⟩
theorem JPY:KVl Tryz.prog Tryz.f268=some w268:=by kernel_rfl
noncomputable def w269:CF:=(KVl Tryz.prog Tryz.f269).getD ⟨0,[],.ret⟩
theorem YlB:KVl Tryz.prog Tryz.f269=some w269:=by kernel_rfl
end
section
set_option maxRecDepth 100000
set_option maxHeartbeats 4000000
def lowP (c:Int):Prop:=(97<=c/\c<=122)\/(48<=c/\c<=57)
instance (c:Int):Decidable (lowP c):=inferInstanceAs (Decidable (_\/_))
def XmB:List AV->List AB->Option (AV×List AB)
 | [.i .i32 c],h=>some (.b (decide (lowP c)),h)
 | _,_=>none
theorem QJz:Spec Tryz.prog 224 XmB:=by
 intro args h v h' e
 unfold XmB at e
 split at e
 ·rename_i c
  cases e
  refine FnAt.c (FnAt.run (by kernel_rfl) (T:=⟨[],[]⟩) ⟨trivial,trivial⟩ Tryz.func224 zdu fun ho hh=>?_)
  unfold w224
  by_cases h1:97<=c <;> by_cases h2:c<=122 <;> by_cases h3:48<=c <;> by_cases h4:c<=57 <;>
   (simp only[QhU,YqB,z16,KHD,Xq6,simprocAttr,CO.tmps,Opd.tmps,optT,h1,h2,h3,h4,decide_true,decide_false];exact Bt.dropB _ hh (by simp [lowP,h1,h2,h3,h4]))
 ·cases e
theorem KTC:Spec Tryz.prog 134 XmB:=by
 intro args h v h' e
 unfold XmB at e
 split at e
 ·rename_i c
  cases e
  refine FnAt.c (FnAt.run (by kernel_rfl) (T:=⟨[],[]⟩) ⟨trivial,trivial⟩ Tryz.func134 YmW fun ho hh=>?_)
  unfold w134
  by_cases h1:97<=c <;> by_cases h2:c<=122 <;> by_cases h3:48<=c <;> by_cases h4:c<=57 <;>
   (simp only[QhU,YqB,z16,KHD,Xq6,simprocAttr,CO.tmps,Opd.tmps,optT,h1,h2,h3,h4,decide_true,decide_false];exact Bt.dropB _ hh (by simp [lowP,h1,h2,h3,h4]))
 ·cases e
inductive RK where
 | w
 | i
 | s
 | d
deriving DecidableEq
structure RQ where
 left:Nat
 k:RK
deriving DecidableEq
def QIO (n:Nat) (c:Int):Option RQ:=if lowP c then some ⟨n,.i⟩ else none
def KGW (q:RQ) (c:Int):Option RQ:=
 match q.k with
 | .w=>QIO q.left c
 | .i=>if c=47/\0<q.left then some ⟨q.left-1,.w⟩ else if c=46 then some ⟨q.left,.w⟩ else if c=95 then some ⟨q.left,.s⟩ else if c=45 then some ⟨q.left,.d⟩ else QIO q.left c
 | .s=>if c=95 then some ⟨q.left,.w⟩ else QIO q.left c
 | .d=>if c=45 then some ⟨q.left,.d⟩ else QIO q.left c
def fnR:RK->Nat
 | .w=>226
 | .i=>255
 | .s=>267
 | .d=>268
def stR (q:RQ):AB:=.blk false true [.f (.func (fnR q.k)) [.ag [.i .i64 q.left]] [],.b (decide (q.k=.i))]
theorem Jyz (n:Nat):stR ⟨n,.w⟩=.blk false true [.f (.func 226) [.ag [.i .i64 n]] [],.b false]:=oI rfl
theorem JJU (n:Nat):stR ⟨n,.i⟩=.blk false true [.f (.func 255) [.ag [.i .i64 n]] [],.b true]:=oI rfl
theorem ZSy (n:Nat):stR ⟨n,.s⟩=.blk false true [.f (.func 267) [.ag [.i .i64 n]] [],.b false]:=oI rfl
theorem KWK (n:Nat):stR ⟨n,.d⟩=.blk false true [.f (.func 268) [.ag [.i .i64 n]] [],.b false]:=oI rfl
def ansR (h:List AB):Option RQ->Option (AV×List AB)
 | some q=>some (.p h.length 0,h++[stR q])
 | none=>some (.np,h)
def QoC (k:RK):List AV->List AB->Option (AV×List AB)
 | [.ag [.i .i64 n],.i .i32 c],h=>if 0<=n/\n<=1000 then ansR h (KGW ⟨n.toNat,k⟩ c) else none
 | _,_=>none
def zJd:List AV->List AB->Option (AV×List AB)
 | [.ag [.i .i64 n]],h=>if 0<=n/\n<=1000 then some (.p h.length 0,h++[stR ⟨n.toNat,.w⟩]) else none
 | _,_=>none
theorem YR0:Spec Tryz.prog 185 zJd:=by
 intro args h v h' e
 unfold zJd at e
 split at e
 ·rename_i n
  split at e
  ·rename_i hn
   cases e
   refine FnAt.c (FnAt.run (by kernel_rfl) (T:=⟨[],[]⟩) ⟨trivial,trivial⟩ Tryz.func185 Ksm fun ho hh=>?_)
   have en:((n.toNat:Nat):Int)=n:=by omega
   unfold w185
   simp only[QhU,YqB,z16,KHD,Xq6,simprocAttr,CO.tmps,Opd.tmps,optT]
   rw[Jyz,en]
   exact Bt.sel [1] hh (by decide) (by simp only[KlC,FrSel,BlkSel,AV.ren,renL,AV.ok,okL,Option.some.injEq,exists_eq_left',List.length_cons,List.length_nil,Nat.reduceAdd,Nat.reduceLT,reduceCtorEq,implies_true,exists_eq']) (by simp only[KlC,FrSel,BlkSel,AV.ren,renL,AV.ok,okL,Option.some.injEq,exists_eq_left',List.length_cons,List.length_nil,Nat.reduceAdd,Nat.reduceLT,reduceCtorEq,implies_true,exists_eq'])
  ·cases e
 ·cases e
theorem Ql0:Spec Tryz.prog 226 (QoC .w):=by
 intro args h v h' e
 unfold QoC at e
 split at e
 ·rename_i n c
  split at e
  ·rename_i hn
   have en:((n.toNat:Nat):Int)=n:=by omega
   refine FnAt.c (FnAt.run (by kernel_rfl) (T:=⟨[⟨224,XmB,fun _=>[]⟩],[]⟩) ⟨⟨QJz,trivial⟩,trivial⟩ Tryz.func226 XZI fun ho hh=>?_)
   unfold w226
   simp only[KGW,QIO]at e
   by_cases h1:lowP c
   ·rw[if_pos h1]at e
    cases e
    simp only[QhU,YqB,z16,KHD,Xq6,simprocAttr,CO.tmps,Opd.tmps,optT,XmB,eq_true h1,oD,ne_eq,forall_const]
    rw[JJU,en]
    exact Bt.sel [1] hh (by decide) (by simp only[KlC,FrSel,BlkSel,AV.ren,renL,AV.ok,okL,Option.some.injEq,exists_eq_left',List.length_cons,List.length_nil,Nat.reduceAdd,Nat.reduceLT,reduceCtorEq,implies_true,exists_eq']) (by simp only[KlC,FrSel,BlkSel,AV.ren,renL,AV.ok,okL,Option.some.injEq,exists_eq_left',List.length_cons,List.length_nil,Nat.reduceAdd,Nat.reduceLT,reduceCtorEq,implies_true,exists_eq'])
   ·rw[if_neg h1]at e
    cases e
    simp only[QhU,YqB,z16,KHD,Xq6,simprocAttr,CO.tmps,Opd.tmps,optT,XmB,eq_false h1,oD,ne_eq,forall_const]
    exact Bt.drop _ hh rfl rfl
  ·cases e
 ·cases e
theorem ZYH {h:List AB} {o:Option RQ} {v:AV} {h':List AB} (e:ansR h o=some (v,h')):(∃q,o=some q/\v=.p h.length 0/\h'=h++[stR q])\/(o=none/\v=.np/\h'=h):=by
 cases o with
 | some q=>cases e;exact .inl ⟨q,rfl,rfl,rfl⟩
 | none=>cases e;exact .inr ⟨rfl,rfl,rfl⟩
theorem JKZ:Spec Tryz.prog 267 (QoC .s):=by
 intro args h v h' e
 unfold QoC at e
 split at e
 ·rename_i n c
  split at e
  ·rename_i hn
   have en:((n.toNat:Nat):Int)=n:=by omega
   have hn':=eq_true hn
   refine FnAt.c (FnAt.run (by kernel_rfl) (T:=⟨[⟨226,QoC .w,fun _=>[]⟩],[]⟩) ⟨⟨Ql0,trivial⟩,trivial⟩ Tryz.func267 Q1U fun ho hh=>?_)
   unfold w267
   simp only[KGW]at e
   by_cases h1:c=95
   ·rw[if_pos h1]at e
    cases e
    simp only[QhU,YqB,z16,KHD,Xq6,simprocAttr,CO.tmps,Opd.tmps,optT,eq_true h1,oD,ne_eq,forall_const]
    rw[Jyz,en]
    exact Bt.sel [1] hh (by decide) (by simp only[KlC,FrSel,BlkSel,AV.ren,renL,AV.ok,okL,Option.some.injEq,exists_eq_left',List.length_cons,List.length_nil,Nat.reduceAdd,Nat.reduceLT,reduceCtorEq,implies_true,exists_eq']) (by simp only[KlC,FrSel,BlkSel,AV.ren,renL,AV.ok,okL,Option.some.injEq,exists_eq_left',List.length_cons,List.length_nil,Nat.reduceAdd,Nat.reduceLT,reduceCtorEq,implies_true,exists_eq'])
   ·rw[if_neg h1]at e
    have es:∀H,QoC .w [.ag [.i .i64 n],.i .i32 c] H=ansR H (QIO n.toNat c):=fun H=>by
     show (if 0<=n/\n<=1000 then ansR H (KGW ⟨n.toNat,.w⟩ c) else none)=_
     rw[if_pos hn]
     rfl
    rcases ZYH e with ⟨q,q1,rfl,rfl⟩|⟨q1,rfl,rfl⟩
    ·simp only[QhU,YqB,z16,KHD,Xq6,simprocAttr,CO.tmps,Opd.tmps,optT,eq_false h1,es,q1,ansR,oD,ne_eq,forall_const]
     exact Bt.sel [1] hh (by decide) (by simp only[KlC,FrSel,BlkSel,AV.ren,renL,AV.ok,okL,Option.some.injEq,exists_eq_left',List.length_cons,List.length_nil,Nat.reduceAdd,Nat.reduceLT,reduceCtorEq,implies_true,exists_eq',stR]) (by simp only[KlC,FrSel,BlkSel,AV.ren,renL,AV.ok,okL,Option.some.injEq,exists_eq_left',List.length_cons,List.length_nil,Nat.reduceAdd,Nat.reduceLT,reduceCtorEq,implies_true,exists_eq'])
    ·simp only[QhU,YqB,z16,KHD,Xq6,simprocAttr,CO.tmps,Opd.tmps,optT,eq_false h1,es,q1,ansR,oD,ne_eq,forall_const]
     exact Bt.drop _ hh rfl rfl
  ·cases e
 ·cases e
theorem qiR:Spec Tryz.prog 268 (QoC .d):=by
 intro args h v h' e
 unfold QoC at e
 split at e
 ·rename_i n c
  split at e
  ·rename_i hn
   have en:((n.toNat:Nat):Int)=n:=by omega
   have hn':=eq_true hn
   refine FnAt.c (FnAt.run (by kernel_rfl) (T:=⟨[⟨226,QoC .w,fun _=>[]⟩],[]⟩) ⟨⟨Ql0,trivial⟩,trivial⟩ Tryz.func268 JPY fun ho hh=>?_)
   unfold w268
   simp only[KGW]at e
   by_cases h1:c=45
   ·rw[if_pos h1]at e
    cases e
    simp only[QhU,YqB,z16,KHD,Xq6,simprocAttr,CO.tmps,Opd.tmps,optT,eq_true h1,oD,ne_eq,forall_const]
    rw[KWK,en]
    exact Bt.sel [1] hh (by decide) (by simp only[KlC,FrSel,BlkSel,AV.ren,renL,AV.ok,okL,Option.some.injEq,exists_eq_left',List.length_cons,List.length_nil,Nat.reduceAdd,Nat.reduceLT,reduceCtorEq,implies_true,exists_eq']) (by simp only[KlC,FrSel,BlkSel,AV.ren,renL,AV.ok,okL,Option.some.injEq,exists_eq_left',List.length_cons,List.length_nil,Nat.reduceAdd,Nat.reduceLT,reduceCtorEq,implies_true,exists_eq'])
   ·rw[if_neg h1]at e
    have es:∀H,QoC .w [.ag [.i .i64 n],.i .i32 c] H=ansR H (QIO n.toNat c):=fun H=>by
     show (if 0<=n/\n<=1000 then ansR H (KGW ⟨n.toNat,.w⟩ c) else none)=_
     rw[if_pos hn]
     rfl
    rcases ZYH e with ⟨q,q1,rfl,rfl⟩|⟨q1,rfl,rfl⟩
    ·simp only[QhU,YqB,z16,KHD,Xq6,simprocAttr,CO.tmps,Opd.tmps,optT,eq_false h1,es,q1,ansR,oD,ne_eq,forall_const]
     exact Bt.sel [1] hh (by decide) (by simp only[KlC,FrSel,BlkSel,AV.ren,renL,AV.ok,okL,Option.some.injEq,exists_eq_left',List.length_cons,List.length_nil,Nat.reduceAdd,Nat.reduceLT,reduceCtorEq,implies_true,exists_eq',stR]) (by simp only[KlC,FrSel,BlkSel,AV.ren,renL,AV.ok,okL,Option.some.injEq,exists_eq_left',List.length_cons,List.length_nil,Nat.reduceAdd,Nat.reduceLT,reduceCtorEq,implies_true,exists_eq'])
    ·simp only[QhU,YqB,z16,KHD,Xq6,simprocAttr,CO.tmps,Opd.tmps,optT,eq_false h1,es,q1,ansR,oD,ne_eq,forall_const]
     exact Bt.drop _ hh rfl rfl
  ·cases e
 ·cases e
theorem K1B:Spec Tryz.prog 255 (QoC .i):=by
 intro args h v h' e
 unfold QoC at e
 split at e
 ·rename_i n c
  split at e
  ·rename_i hn
   have en:((n.toNat:Nat):Int)=n:=by omega
   refine FnAt.c (FnAt.run (by kernel_rfl) (T:=⟨[⟨226,QoC .w,fun _=>[]⟩,⟨185,zJd,fun _=>[]⟩],[]⟩) ⟨⟨Ql0,YR0,trivial⟩,trivial⟩ Tryz.func255 ZSs fun ho hh=>?_)
   unfold w255
   have es:∀H,QoC .w [.ag [.i .i64 n],.i .i32 c] H=ansR H (QIO n.toNat c):=fun H=>by
    show (if 0<=n/\n<=1000 then ansR H (KGW ⟨n.toNat,.w⟩ c) else none)=_
    rw[if_pos hn]
    rfl
   simp only[KGW]at e
   by_cases h1:c=47
   ·subst h1
    by_cases h0:0<n
    ·rw[if_pos ⟨rfl,by omega⟩]at e
     cases e
     have ew:IntKind.i64.wrap (n-1)=n-1:=ZWm (by unfold In64;omega)
     have ep:∀H,zJd [.ag [.i .i64 (n-1)]] H=some (.p H.length 0,H++[stR ⟨n.toNat-1,.w⟩]):=fun H=>by
      show (if 0<=n-1/\n-1<=1000 then some (AV.p H.length 0,H++[stR ⟨(n-1).toNat,.w⟩]) else none)=_
      rw[if_pos (by omega),show (n-1).toNat=n.toNat-1 by omega]
     have h0':=eq_true h0
     simp only[QhU,YqB,z16,KHD,Xq6,simprocAttr,CO.tmps,Opd.tmps,optT,h0',ew,ep,oD,ne_eq,forall_const]
     exact Bt.sel [1] hh (by decide) (by simp only[KlC,FrSel,BlkSel,AV.ren,renL,AV.ok,okL,Option.some.injEq,exists_eq_left',List.length_cons,List.length_nil,Nat.reduceAdd,Nat.reduceLT,reduceCtorEq,implies_true,exists_eq',stR]) (by simp only[KlC,FrSel,BlkSel,AV.ren,renL,AV.ok,okL,Option.some.injEq,exists_eq_left',List.length_cons,List.length_nil,Nat.reduceAdd,Nat.reduceLT,reduceCtorEq,implies_true,exists_eq'])
    ·rw[if_neg (fun q=>h0 (by omega)),if_neg (by decide),if_neg (by decide),if_neg (by decide)]at e
     have h0':=eq_false h0
     rcases ZYH e with ⟨q,q1,rfl,rfl⟩|⟨q1,rfl,rfl⟩
     ·simp only[QhU,YqB,z16,KHD,Xq6,simprocAttr,CO.tmps,Opd.tmps,optT,h0',es,q1,ansR,oD,ne_eq,forall_const]
      exact Bt.sel [1] hh (by decide) (by simp only[KlC,FrSel,BlkSel,AV.ren,renL,AV.ok,okL,Option.some.injEq,exists_eq_left',List.length_cons,List.length_nil,Nat.reduceAdd,Nat.reduceLT,reduceCtorEq,implies_true,exists_eq',stR]) (by simp only[KlC,FrSel,BlkSel,AV.ren,renL,AV.ok,okL,Option.some.injEq,exists_eq_left',List.length_cons,List.length_nil,Nat.reduceAdd,Nat.reduceLT,reduceCtorEq,implies_true,exists_eq'])
     ·simp only[QhU,YqB,z16,KHD,Xq6,simprocAttr,CO.tmps,Opd.tmps,optT,h0',es,q1,ansR,oD,ne_eq,forall_const]
      exact Bt.drop _ hh rfl rfl
   have h1':=eq_false h1
   rw[if_neg (fun q=>h1 q.1)]at e
   by_cases h2:c=46
   ·rw[if_pos h2]at e
    cases e
    simp only[QhU,YqB,z16,KHD,Xq6,simprocAttr,CO.tmps,Opd.tmps,optT,h1',eq_true h2,oD,ne_eq,forall_const]
    rw[Jyz,en]
    exact Bt.sel [1] hh (by decide) (by simp only[KlC,FrSel,BlkSel,AV.ren,renL,AV.ok,okL,Option.some.injEq,exists_eq_left',List.length_cons,List.length_nil,Nat.reduceAdd,Nat.reduceLT,reduceCtorEq,implies_true,exists_eq']) (by simp only[KlC,FrSel,BlkSel,AV.ren,renL,AV.ok,okL,Option.some.injEq,exists_eq_left',List.length_cons,List.length_nil,Nat.reduceAdd,Nat.reduceLT,reduceCtorEq,implies_true,exists_eq'])
   have h2':=eq_false h2
   rw[if_neg h2]at e
   by_cases h3:c=95
   ·rw[if_pos h3]at e
    cases e
    simp only[QhU,YqB,z16,KHD,Xq6,simprocAttr,CO.tmps,Opd.tmps,optT,h1',h2',eq_true h3,oD,ne_eq,forall_const]
    rw[ZSy,en]
    exact Bt.sel [1] hh (by decide) (by simp only[KlC,FrSel,BlkSel,AV.ren,renL,AV.ok,okL,Option.some.injEq,exists_eq_left',List.length_cons,List.length_nil,Nat.reduceAdd,Nat.reduceLT,reduceCtorEq,implies_true,exists_eq']) (by simp only[KlC,FrSel,BlkSel,AV.ren,renL,AV.ok,okL,Option.some.injEq,exists_eq_left',List.length_cons,List.length_nil,Nat.reduceAdd,Nat.reduceLT,reduceCtorEq,implies_true,exists_eq'])
   have h3':=eq_false h3
   rw[if_neg h3]at e
   by_cases h4:c=45
   ·rw[if_pos h4]at e
    cases e
    simp only[QhU,YqB,z16,KHD,Xq6,simprocAttr,CO.tmps,Opd.tmps,optT,h1',h2',h3',eq_true h4,oD,ne_eq,forall_const]
    rw[KWK,en]
    exact Bt.sel [1] hh (by decide) (by simp only[KlC,FrSel,BlkSel,AV.ren,renL,AV.ok,okL,Option.some.injEq,exists_eq_left',List.length_cons,List.length_nil,Nat.reduceAdd,Nat.reduceLT,reduceCtorEq,implies_true,exists_eq']) (by simp only[KlC,FrSel,BlkSel,AV.ren,renL,AV.ok,okL,Option.some.injEq,exists_eq_left',List.length_cons,List.length_nil,Nat.reduceAdd,Nat.reduceLT,reduceCtorEq,implies_true,exists_eq'])
   have h4':=eq_false h4
   rw[if_neg h4]at e
   rcases ZYH e with ⟨q,q1,rfl,rfl⟩|⟨q1,rfl,rfl⟩
   ·simp only[QhU,YqB,z16,KHD,Xq6,simprocAttr,CO.tmps,Opd.tmps,optT,h1',h2',h3',h4',es,q1,ansR,oD,ne_eq,forall_const]
    exact Bt.sel [1] hh (by decide) (by simp only[KlC,FrSel,BlkSel,AV.ren,renL,AV.ok,okL,Option.some.injEq,exists_eq_left',List.length_cons,List.length_nil,Nat.reduceAdd,Nat.reduceLT,reduceCtorEq,implies_true,exists_eq',stR]) (by simp only[KlC,FrSel,BlkSel,AV.ren,renL,AV.ok,okL,Option.some.injEq,exists_eq_left',List.length_cons,List.length_nil,Nat.reduceAdd,Nat.reduceLT,reduceCtorEq,implies_true,exists_eq'])
   ·simp only[QhU,YqB,z16,KHD,Xq6,simprocAttr,CO.tmps,Opd.tmps,optT,h1',h2',h3',h4',es,q1,ansR,oD,ne_eq,forall_const]
    exact Bt.drop _ hh rfl rfl
  ·cases e
 ·cases e
end
section
set_option maxRecDepth 100000
set_option maxHeartbeats 4000000
def runB {Q:Type} (step:Q->Int->Option Q) (ends:Q->Bool):List UInt8->Nat->Q->Option Nat
 | [],pos,q=>if ends q then none else some pos
 | b::l,pos,q=>match (if b.toNat<128 then step q b.toNat else none) with
  | none=>some pos
  | some q'=>runB step ends l (pos+1) q'
theorem JaZ (x:List UInt8):lenV (.s x)=some (x.length:Int):=oI rfl
theorem XPB (x:List UInt8):(AV.s x).isStr=true:=oI rfl
def fltA (e:Int):Option Nat->AV
 | none=>.ag [.i .i64 0,.i .i64 0]
 | some at'=>.ag [.i .i64 e,.i .i64 at']
theorem qXJ {l:List UInt8} {pos:Nat} (h:pos<l.length) (ha:¬(l[pos]).toNat<128):128<=(Utf8.decode ⟨l.toArray⟩ pos).1:=by
 have hs:pos<(⟨l.toArray⟩:ByteArray).size:=by simpa [ByteArray.size] using h
 exact (decode_high ⟨l.toArray⟩ pos hs (by show 128<=(l[pos]).toNat;omega)).1
theorem qeA {q:RQ} {c:Int} (h:128<=c):KGW q c=none:=by
 have hw:QIO q.left c=none:=by unfold QIO;rw[if_neg (by unfold lowP;omega)]
 unfold KGW
 split
 ·exact hw
 ·rw[if_neg (by omega),if_neg (by omega),if_neg (by omega),if_neg (by omega),hw]
 ·rw[if_neg (by omega),hw]
 ·rw[if_neg (by omega),hw]
theorem zDh {q q':RQ} {c:Int} (h:KGW q c=some q'):q'.left<=q.left:=by
 have hw:∀r,QIO q.left c=some r->r.left<=q.left:=fun r e=>by
  unfold QIO at e
  split at e
  ·cases e;exact Nat.le_refl _
  ·cases e
 unfold KGW at h
 split at h
 ·exact hw _ h
 ·split at h
  ·cases h;exact Nat.sub_le _ _
  ·split at h
   ·cases h;exact Nat.le_refl _
   ·split at h
    ·cases h;exact Nat.le_refl _
    ·split at h
     ·cases h;exact Nat.le_refl _
     ·exact hw _ h
 ·split at h
  ·cases h;exact Nat.le_refl _
  ·exact hw _ h
 ·split at h
  ·cases h;exact Nat.le_refl _
  ·exact hw _ h
theorem X39 {q q':RQ} (h:stR q=stR q'):q=q':=by
 obtain ⟨n,k⟩:=q
 obtain ⟨n',k'⟩:=q'
 cases k <;> cases k' <;> simp [stR,fnR]at h ⊢ <;> omega
open Classical in
noncomputable def qAt (h:List AB) (j:Nat):Option RQ:=if hq:∃q:RQ,h[j]?=some (stR q) then some hq.choose else none
theorem YE0 {h:List AB} {j:Nat} {q:RQ} (e:h[j]?=some (stR q)):qAt h j=some q:=by
 have hx:∃q:RQ,h[j]?=some (stR q):=⟨q,e⟩
 have h1:some (stR q)=some (stR hx.choose):=e.symm.trans hx.choose_spec
 unfold qAt
 exact (dif_pos hx).trans (congrArg some (X39 (Option.some.inj h1)).symm)
theorem qqw {β:Type} {h:List AB} {j:Nat} {f:RQ->Option β} {b:β} (e:(qAt h j).bind f=some b):∃q,h[j]?=some (stR q)/\f q=some b:=by
 unfold qAt at e
 split at e
 ·rename_i hx
  exact ⟨_,hx.choose_spec,e⟩
 ·cases e
def zcI (q:RQ):Bool:=decide (q.k=.i)
noncomputable def J2R:List AV->List AB->Option (AV×List AB)
 | [.s s,.p j 0,.i .i64 e],h=>(qAt h j).bind fun q=>if q.left<=1000/\s.length<=1000000 then some (fltA e (runB KGW zcI s 0 q),h) else none
 | _,_=>none
theorem Z1t (q:RQ):(stR q).freeze=.blk false false [.f (.func (fnR q.k)) [.ag [.i .i64 q.left]] [],.b (decide (q.k=.i))]:=oI rfl
theorem ZPy {Q:Type} {step:Q->Int->Option Q} {ends:Q->Bool} {s:List UInt8} {pos:Nat} {q:Q} (h:pos<s.length):runB step ends (s.drop pos) pos q=match (if (s[pos]).toNat<128 then step q (s[pos]).toNat else none) with
  | none=>some pos
  | some q'=>runB step ends (s.drop (pos+1)) (pos+1) q':=by
 rw[List.drop_eq_getElem_cons h]
 rfl
theorem Ze8 {Q:Type} {step:Q->Int->Option Q} (hbig:∀q c,128<=c->step q c=none) {s:List UInt8} {pos:Nat} (h:pos<s.length) (q:Q) :
  (if (s[pos]).toNat<128 then step q (s[pos]).toNat else none)=step q ((Utf8.decode ⟨s.toArray⟩ pos).1:Int)/\(∀q',step q ((Utf8.decode ⟨s.toArray⟩ pos).1:Int)=some q'->(Utf8.decode ⟨s.toArray⟩ pos).2=1):=by
 by_cases ha:(s[pos]).toNat<128
 ·rw[if_pos ha,ZmB h ha]
  exact ⟨rfl,fun _ _=>rfl⟩
 ·rw[if_neg ha]
  have:=hbig q _ (show (128:Int)<=((Utf8.decode ⟨s.toArray⟩ pos).1:Int) by have:=qXJ h ha;omega)
  exact ⟨this.symm,fun q' e=>by rw[this]at e;cases e⟩
theorem JBh (k:RK) (a:List AV) (H:List AB):(if 226=fnR k then QoC .w a H else if 255=fnR k then QoC .i a H else if 267=fnR k then QoC .s a H else if 268=fnR k then QoC .d a H else none)=QoC k a H:=by
 cases k <;> rfl
theorem Ydo {q:RQ} (hl:q.left<=1000) (c:Int) (H:List AB):QoC q.k [.ag [.i .i64 q.left],.i .i32 c] H=ansR H (KGW q c):=by
 show (if (0:Int)<=(q.left:Int)/\(q.left:Int)<=1000 then ansR H (KGW ⟨((q.left:Int)).toNat,q.k⟩ c) else none)=_
 rw[if_pos (by omega),Int.toNat_natCast]
theorem ZCJ {h:List AB} (hz:h.map AB.freeze=h) {s:List UInt8} {j:Nat} {e:Int} {q0:RQ} (hj:h[j]?=some (stR q0).freeze) (hl:q0.left<=1000) (hs:s.length<=1000000) :
  FnAt Tryz.prog 184 [.s s,.p j 0,.i .i64 e] h (fltA e (runB KGW zcI s 0 q0)) h:=by
 refine FnAt.run (by kernel_rfl) (T:=⟨[⟨226,QoC .w,fun _=>[]⟩,⟨255,QoC .i,fun _=>[]⟩,⟨267,QoC .s,fun _=>[]⟩,⟨268,QoC .d,fun _=>[]⟩],[]⟩) ⟨⟨Ql0,K1B,JKZ,qiR,trivial⟩,trivial⟩ Tryz.func184 zjP fun ho hh=>?_
 unfold w184
 have hjl:=(List.getElem?_eq_some_iff.1 hj).1
 have hp:∀L:List AB,ZMh (h++L) j=some [.f (.func (fnR q0.k)) [.ag [.i .i64 q0.left]] [],.b (decide (q0.k=.i))]:=fun L=>by
  unfold ZMh
  rw[List.getElem?_append_left hjl,hj,Z1t]
 have lj0:∀L:List AB,ldV (h++L) none (.p j 0)=some (.f (.func (fnR q0.k)) [.ag [.i .i64 q0.left]] []):=fun L=>by
  simp only[ldV,hp,Option.bind_some]
  rfl
 have lj1:∀L:List AB,ldV (h++L) none (.p j 1)=some (.b (decide (q0.k=.i))):=fun L=>by
  simp only[ldV,hp,Option.bind_some]
  rfl
 have en0:q70 .np .np=some true:=rfl
 have en1:∀a b,q70 (.p a b) .np=some false:=fun _ _=>rfl
 have oj:∀c,(AV.p j 0).ok (fun i=>decide (i<h.length+c))=true:=fun c=>by simp [AV.ok];omega
 simp only[QhU,YqB,z16,KHD,Xq6,simprocAttr,CO.tmps,Opd.tmps,optT,z79]
 refine q2X (S:=Nat×RQ) (fun σ=>s.length-σ.1) (fun σ=>[.s s,(if σ.1=0 then .p j 0 else .p (h.length+2) 0),.i .i64 e]++tp 3++[.p (h.length+0) 0]++tp 3++[.p (h.length+1) 0]++tp 25) (fun σ=>h++[.blk true true [.i .i64 0,.i .i64 0],itr s σ.1,(if σ.1=0 then .dead else stR σ.2)])
  (fun σ=>σ.1<=s.length/\σ.2.left<=1000/\(σ.1=0->σ.2=q0)/\runB KGW zcI (s.drop σ.1) σ.1 σ.2=runB KGW zcI s 0 q0) (0,q0) ⟨Nat.zero_le _,hl,fun _=>rfl,rfl⟩ ?_ fun σ hσ=>?_
 ·show Bt _ _ _ _ _ (h++([.blk true true [.i .i64 0,.i .i64 0],itr s 0]++List.replicate 1 .dead))
  rw[<-List.append_assoc]
  refine Bt.trans (Bt.wk ?_) (Bt.pad _ _ 1)
  simp only[z16,Xq6,simprocAttr]
 obtain ⟨pos,q⟩:=σ
 obtain ⟨h1,h2,h3,h4⟩:=hσ
 dsimp only at h1 h2 h3 h4 ⊢
 have hn:∀B:AB,nxV (h++[.blk true true [.i .i64 0,.i .i64 0],itr s pos,B]) (.p (h.length+1) 0)=if pos<s.length then some (.tu [.b true,.i .i64 (pos:Int),.i .i32 ((Utf8.decode ⟨s.toArray⟩ pos).1:Int)],h++[.blk true true [.i .i64 0,.i .i64 0],itr s (pos+(Utf8.decode ⟨s.toArray⟩ pos).2),B]) else some (.tu [.b false],h++[.blk true true [.i .i64 0,.i .i64 0],itr s pos,B]):=fun B=>J23 _ 1 s pos rfl
 by_cases g:pos<s.length
 ·have hd:=ZPy (step:=KGW) (ends:=zcI) (q:=q) g
  rw[h4]at hd
  by_cases p0:pos=0
  ·subst p0
   rw[h3 rfl]at hd
   simp only[if_true]
   obtain ⟨e1,e2⟩:=Ze8 (step:=KGW) (fun _ _=>qeA) g q0
   rw[e1]at hd
   have es:=fun H=>Ydo (q:=q0) hl ((Utf8.decode ⟨s.toArray⟩ 0).1:Int) H
   cases hst:KGW q0 ((Utf8.decode ⟨s.toArray⟩ 0).1:Int) with
   | none =>
    rw[hst]at hd
    dsimp only at hd
    simp only[QhU,YqB,z16,KHD,Xq6,simprocAttr,CO.tmps,Opd.tmps,optT,X6H,hn,g,lj0,JBh,es,hst,ansR,en0,en1,oD,ne_eq,forall_const]
    rw[hd]
    exact Bt.drop _ hh rfl rfl
   | some q' =>
    have e3:=e2 q' hst
    rw[hst]at hd
    dsimp only at hd
    simp only[QhU,YqB,z16,KHD,Xq6,simprocAttr,CO.tmps,Opd.tmps,optT,X6H,hn,g,lj0,JBh,es,hst,ansR,e3,en0,en1,oD,ne_eq,forall_const]
    refine ⟨(0+1,q'),⟨g,Nat.le_trans (zDh hst) hl,(fun z=>absurd z (Nat.succ_ne_zero _)),hd.symm⟩,by dsimp only;omega,?_⟩
    dsimp only
    rw[if_neg (by decide),if_neg (by decide)]
    exact Bt.sel [0,1,3] hh (by decide) (by simp only[KlC,FrSel,BlkSel,AV.ren,renL,AV.ok,okL,Option.some.injEq,exists_eq_left',List.length_cons,List.length_nil,Nat.reduceAdd,Nat.reduceLT,reduceCtorEq,implies_true,exists_eq',oj,itr,stR,YmR,and_self]) (by simp only[KlC,FrSel,BlkSel,AV.ren,renL,AV.ok,okL,Option.some.injEq,exists_eq_left',List.length_cons,List.length_nil,Nat.reduceAdd,Nat.reduceLT,reduceCtorEq,implies_true,exists_eq'])
  ·simp only[p0,if_false]
   obtain ⟨e1,e2⟩:=Ze8 (step:=KGW) (fun _ _=>qeA) g q
   rw[e1]at hd
   have es:=fun H=>Ydo (q:=q) h2 ((Utf8.decode ⟨s.toArray⟩ pos).1:Int) H
   cases hst:KGW q ((Utf8.decode ⟨s.toArray⟩ pos).1:Int) with
   | none =>
    rw[hst]at hd
    dsimp only at hd
    simp only[QhU,YqB,z16,KHD,Xq6,simprocAttr,CO.tmps,Opd.tmps,optT,X6H,hn,g,stR,JBh,es,hst,ansR,en0,en1,oD,ne_eq,forall_const]
    rw[hd]
    exact Bt.drop _ hh rfl rfl
   | some q' =>
    have e3:=e2 q' hst
    rw[hst]at hd
    dsimp only at hd
    simp only[QhU,YqB,z16,KHD,Xq6,simprocAttr,CO.tmps,Opd.tmps,optT,X6H,hn,g,stR,JBh,es,hst,ansR,e3,en0,en1,oD,ne_eq,forall_const]
    refine ⟨(pos+1,q'),⟨g,Nat.le_trans (zDh hst) h2,(fun z=>absurd z (Nat.succ_ne_zero _)),hd.symm⟩,by dsimp only;omega,?_⟩
    dsimp only
    rw[if_neg (Nat.succ_ne_zero pos),if_neg (Nat.succ_ne_zero pos)]
    exact Bt.sel [0,1,3] hh (by decide) (by simp only[KlC,FrSel,BlkSel,AV.ren,renL,AV.ok,okL,Option.some.injEq,exists_eq_left',List.length_cons,List.length_nil,Nat.reduceAdd,Nat.reduceLT,reduceCtorEq,implies_true,exists_eq',oj,itr,stR,YmR,and_self]) (by simp only[KlC,FrSel,BlkSel,AV.ren,renL,AV.ok,okL,Option.some.injEq,exists_eq_left',List.length_cons,List.length_nil,Nat.reduceAdd,Nat.reduceLT,reduceCtorEq,implies_true,exists_eq'])
 ·have hpos:pos=s.length:=by omega
  have hd:runB KGW zcI s 0 q0=if zcI q then none else some s.length:=by
   rw[<-h4,hpos,List.drop_length]
   rfl
  by_cases p0:pos=0
  ·have hq0:=h3 p0
   subst hq0
   subst p0
   simp only[if_true]
   have hq:runB KGW zcI s 0 q=if zcI q then none else some s.length:=hd
   cases he:zcI q with
   | true =>
    have he':decide (q.k=RK.i)=true:=he
    rw[he]at hq
    simp only[QhU,YqB,z16,KHD,Xq6,simprocAttr,CO.tmps,Opd.tmps,optT,X6H,hn,g,lj1,he',XJx,Bool.not_true,Bool.not_false,JaZ,XPB,oD,ne_eq,forall_const]
    rw[hq]
    exact Bt.drop _ hh rfl rfl
   | false =>
    have he':decide (q.k=RK.i)=false:=he
    rw[he]at hq
    simp only[QhU,YqB,z16,KHD,Xq6,simprocAttr,CO.tmps,Opd.tmps,optT,X6H,hn,g,lj1,he',XJx,Bool.not_true,Bool.not_false,JaZ,XPB,oD,ne_eq,forall_const]
    rw[hq]
    exact Bt.drop _ hh rfl rfl
  ·simp only[p0,if_false]
   have hq:runB KGW zcI s 0 q0=if zcI q then none else some s.length:=hd
   cases he:zcI q with
   | true =>
    have he':decide (q.k=RK.i)=true:=he
    rw[he]at hq
    simp only[QhU,YqB,z16,KHD,Xq6,simprocAttr,CO.tmps,Opd.tmps,optT,X6H,hn,g,stR,he',XJx,Bool.not_true,Bool.not_false,JaZ,XPB,oD,ne_eq,forall_const]
    rw[hq]
    exact Bt.drop _ hh rfl rfl
   | false =>
    have he':decide (q.k=RK.i)=false:=he
    rw[he]at hq
    simp only[QhU,YqB,z16,KHD,Xq6,simprocAttr,CO.tmps,Opd.tmps,optT,X6H,hn,g,stR,he',XJx,Bool.not_true,Bool.not_false,JaZ,XPB,oD,ne_eq,forall_const]
    rw[hq]
    exact Bt.drop _ hh rfl rfl
theorem Qnj:Spec Tryz.prog 184 J2R:=by
 intro args h v h' e
 unfold J2R at e
 split at e
 ·rename_i s j e0
  obtain ⟨q,hq,e⟩:=qqw e
  split at e
  ·rename_i hc
   cases e
   refine FnAt.c (FnAt.frz0 fun hz=>ZCJ hz ?_ hc.1 hc.2)
   rw[List.getElem?_map,hq]
   rfl
  ·cases e
 ·cases e
end
section
set_option maxRecDepth 100000
set_option maxHeartbeats 4000000
def XjM:List AV->List AB->Option (AV×List AB)
 | [.s s,.i .i64 m],h=>some (.tu [(if m<(s.length:Int) then .ag [.i .i64 4,.i .i64 m] else .ag [.i .i64 0,.i .i64 0]),.b (decide (m<(s.length:Int)))],h)
 | _,_=>none
theorem qlF:Spec Tryz.prog 180 XjM:=by
 intro args h v h' e
 unfold XjM at e
 split at e
 ·rename_i s m
  cases e
  refine FnAt.c (FnAt.run (by kernel_rfl) (T:=⟨[],[]⟩) ⟨trivial,trivial⟩ Tryz.func180 zH7 fun ho hh=>?_)
  unfold w180
  by_cases g:m<(s.length:Int)
  ·have g':=eq_true g
   simp only[QhU,YqB,z16,KHD,Xq6,simprocAttr,CO.tmps,Opd.tmps,optT,g',JaZ,XPB,decide_true,decide_false,false_implies,forall_const,and_true,true_and,not_true_eq_false,not_false_eq_true]
   exact Bt.drop _ hh rfl rfl
  ·have g':=eq_false g
   simp only[QhU,YqB,z16,KHD,Xq6,simprocAttr,CO.tmps,Opd.tmps,optT,g',JaZ,XPB,decide_true,decide_false,false_implies,forall_const,and_true,true_and,not_true_eq_false,not_false_eq_true]
   exact Bt.drop _ hh rfl rfl
 ·cases e
def KRN (s:List UInt8):AV:=if (128:Int)<(s.length:Int) then .ag [.i .i64 4,.i .i64 128] else fltA 7 (runB KGW zcI s 0 ⟨7,.w⟩)
theorem KUw (e:Int) (o:Option Nat):∃a b,fltA e o=.ag [.i .i64 a,.i .i64 b]:=by
 cases o <;> exact ⟨_,_,rfl⟩
noncomputable def Yja:List AV->List AB->Option (AV×List AB)
 | [.s s],h=>if s.length<=1000000 then some (KRN s,h) else none
 | _,_=>none
theorem Q1H {h L:List AB} {k:Nat} {q:RQ} (e:L[k]?=some (stR q)):qAt (h++L) (h.length+k)=some q:=YE0 (by rw[List.getElem?_append_right (by omega),Nat.add_sub_cancel_left];exact e)
theorem zGG:Spec Tryz.prog 124 Yja:=by
 intro args h v h' e
 unfold Yja at e
 split at e
 ·rename_i s
  split at e
  ·rename_i hs
   cases e
   refine FnAt.c (FnAt.run (by kernel_rfl) (T:=⟨[⟨180,XjM,fun _=>[]⟩,⟨185,zJd,fun _=>[]⟩,⟨184,J2R,fun _=>[]⟩],[]⟩) ⟨⟨qlF,YR0,Qnj,trivial⟩,trivial⟩ Tryz.func124 YA6 fun ho hh=>?_)
   unfold w124 KRN
   by_cases g:(128:Int)<(s.length:Int)
   ·have g':=eq_true g
    simp only[QhU,YqB,z16,KHD,Xq6,simprocAttr,CO.tmps,Opd.tmps,optT,XjM,g',decide_true,decide_false,false_implies,forall_const,and_true,true_and,not_true_eq_false,not_false_eq_true,if_true]
    exact Bt.drop _ hh rfl rfl
   ·have g':=eq_false g
    have hp:∀H:List AB,zJd [.ag [.i .i64 7]] H=some (.p H.length 0,H++[stR ⟨7,.w⟩]):=fun H=>rfl
    have hq:∀B C:AB,qAt (h++[B,C,stR ⟨7,.w⟩]) (h.length+2)=some ⟨7,.w⟩:=fun B C=>Q1H rfl
    have hs':=eq_true hs
    have h7:(7<=1000)=True:=eq_true (by decide)
    obtain ⟨a,b,hab⟩:=KUw 7 (runB KGW zcI s 0 ⟨7,.w⟩)
    rw[if_neg g]
    simp only[QhU,YqB,z16,KHD,Xq6,simprocAttr,CO.tmps,Opd.tmps,optT,XjM,g',hp,J2R,hq,h7,hs',hab,decide_true,decide_false,false_implies,forall_const,and_true,true_and,not_true_eq_false,not_false_eq_true,if_false]
    exact Bt.drop _ hh rfl rfl
  ·cases e
 ·cases e
end
end Go.Proofs.YtebcngelgdpbjaaGreat
