/- Part 21 of what the laws' proofs rest on. No condition. -/
import Derived.Test.YtekeoichmdiiiaaGreatTh20
set_option linter.all false
namespace Go.Proofs.YtekeoichmdiiiaaGreat
section
set_option maxRecDepth 100000
def w185:CF:=⟨24,[.t 4],.seq (.reg 0 [oO 4 (.mv (.c (.b false)))]) (.seq (.seq (.reg 1 [oO 5 (.mv (.c (.i .i64 1)))]) (.block 0 (.loop (.seq (.seq (.reg 2 [oM 6 5,oM 7 0,oO 8 (.len false (.t 7)),oO 9 (.bin .lss (.t 6) (.t 8))]) (.cond (.t 9) .skip (.exit 0))) (.seq (.block 1 (.seq (.drw 4 [⟨oM 12 1,0,2⟩,⟨oM 13 0,0,1⟩,⟨oM 14 5,0,32⟩,⟨oO 15 (.bin .sub (.t 14) (.c (.i .i64 1))),4,16384⟩,⟨oO 16 (.iad 3 (.t 13) (.t 15)),14,40960⟩,⟨oO 17 (.ld (some 3) (.t 16)),30,65536⟩,⟨oM 18 0,0,1⟩,⟨oM 19 5,0,32⟩,⟨oO 20 (.iad 3 (.t 18) (.t 19)),192,786432⟩,⟨oO 21 (.ld (some 3) (.t 20)),448,1048576⟩,⟨oO 22 (.call (.t 12) [.t 17,.t 21]),1023,2232320⟩,⟨oO 23 (.bin .geq (.t 22) (.c (.i .i64 0))),2047,4194304⟩]) (.cond (.t 23) (.seq (.reg 5 [oO 4 (.mv (.c (.b false)))]) .ret) .skip))) (.reg 3 [oM 10 5,oO 11 (.bin .add (.t 10) (.c (.i .i64 1))),oM 5 11])))))) (.seq (.reg 6 [oO 4 (.mv (.c (.b true)))]) .ret))⟩
theorem Zzg:J0o Tryz.prog Tryz.f185=some w185:=by kernel_rfl
def w186:CF:=⟨24,[.t 4],.seq (.reg 0 [oO 4 (.mv (.c (.b false)))]) (.seq (.seq (.reg 1 [oO 5 (.mv (.c (.i .i64 1)))]) (.block 0 (.loop (.seq (.seq (.reg 2 [oM 6 5,oM 7 0,oO 8 (.len false (.t 7)),oO 9 (.bin .lss (.t 6) (.t 8))]) (.cond (.t 9) .skip (.exit 0))) (.seq (.block 1 (.seq (.drw 4 [⟨oM 12 1,0,2⟩,⟨oM 13 0,0,1⟩,⟨oM 14 5,0,32⟩,⟨oO 15 (.bin .sub (.t 14) (.c (.i .i64 1))),4,16384⟩,⟨oO 16 (.iad 2 (.t 13) (.t 15)),14,40960⟩,⟨oO 17 (.ld (some 2) (.t 16)),30,65536⟩,⟨oM 18 0,0,1⟩,⟨oM 19 5,0,32⟩,⟨oO 20 (.iad 2 (.t 18) (.t 19)),192,786432⟩,⟨oO 21 (.ld (some 2) (.t 20)),448,1048576⟩,⟨oO 22 (.call (.t 12) [.t 17,.t 21]),1023,2232320⟩,⟨oO 23 (.bin .geq (.t 22) (.c (.i .i64 0))),2047,4194304⟩]) (.cond (.t 23) (.seq (.reg 5 [oO 4 (.mv (.c (.b false)))]) .ret) .skip))) (.reg 3 [oM 10 5,oO 11 (.bin .add (.t 10) (.c (.i .i64 1))),oM 5 11])))))) (.seq (.reg 6 [oO 4 (.mv (.c (.b true)))]) .ret))⟩
theorem qGV:J0o Tryz.prog Tryz.f186=some w186:=by kernel_rfl
def w187:CF:=⟨7,[.t 2],.seq (.reg 0 [oO 1 (.box false 2 (.t 0)),oO 2 (.mv (.c (.b false)))]) (.seq (.reg 1 [oO 3 (.fad 1 (.t 1)),oO 4 (.ld none (.t 3)),oO 5 (.len false (.t 4)),oO 6 (.bin .eql (.t 5) (.c (.i .i64 0))),oM 2 6]) .ret)⟩
theorem Jb0:J0o Tryz.prog Tryz.f187=some w187:=by kernel_rfl
def w188:CF:=⟨44,[.t 10],.seq (.reg 0 [oO 10 (.mv (.c (.b false)))]) (.seq (.seq (.reg 1 [oM 15 3,oO 16 (.len false (.t 15)),oO 17 (.mv (.c (.i .i64 0)))]) (.block 0 (.loop (.seq (.reg 2 [oO 18 (.bin .lss (.t 17) (.t 16))]) (.seq (.cond (.t 18) .skip (.exit 0)) (.seq (.block 1 (.seq (.reg 3 [oO 19 (.iad 34 (.t 15) (.t 17)),oO 20 (.ld (some 34) (.t 19)),oO 12 (.new true [.i .i64 0,.i .i64 0,oZ,oZ,oZ,oZ,oZ,oZ,oZ,oZ,oZ,oZ,oZ,oZ,oZ,oZ,oZ,oZ,oZ,oZ,oZ,oZ,oZ,oZ,oZ,oZ,oZ,oZ,oZ,oZ,oZ,oZ,oZ,oZ]),⟨none,none,.st (some 34) (.t 12) (.t 20)⟩]) (.seq (.seq (.reg 4 [oO 22 (.ld none (.t 4)),oO 23 (.fad 0 (.t 12)),oO 24 (.ld (some 2) (.t 23)),oO 25 (.lkp true [.i,.i] true (.ag []) (.t 22) (.t 24)),oM 21 25,oO 26 (.ext (.t 21) 0),oO 27 (.ext (.t 21) 1),oO 13 (.new true []),⟨none,none,.st (some 0) (.t 13) (.t 26)⟩,oM 14 27]) (.seq (.reg 5 [oM 28 14,oM 29 28,oF 30 29 (.fad 0 (.t 5)),oF 31 29 (.ld none (.t 30)),oF 32 29 (.fad 0 (.t 12)),oF 33 29 (.ld (some 2) (.t 32)),oF 34 29 (.call (.c (.f (.func 61) [] [])) [.t 31,.t 33]),oF 35 29 (.un .not (.t 34)),oO 36 (.pick (.t 29) (.c (.b true)) (.t 35))]) (.cond (.t 36) (.seq (.reg 6 [oO 10 (.mv (.c (.b false)))]) .ret) .skip))) (.reg 7 [oO 37 (.ld none (.t 4)),oO 38 (.fad 0 (.t 12)),oO 39 (.ld (some 2) (.t 38)),oO 40 (.bld [] []),⟨none,none,.mup true [.i,.i] (.t 37) (.t 39) (.t 40)⟩])))) (.reg 8 [oO 41 (.bin .add (.t 17) (.c (.i .i64 1))),oM 17 41]))))))) (.seq (.reg 9 [oM 42 3,oO 43 (.call (.c (.f (.func 189) [] [])) [.t 42,.c (.f (.func 158) [] [])]),oM 10 43]) .ret))⟩
theorem z2D:J0o Tryz.prog Tryz.f188=some w188:=by kernel_rfl
def w189:CF:=⟨24,[.t 4],.seq (.reg 0 [oO 4 (.mv (.c (.b false)))]) (.seq (.seq (.reg 1 [oO 5 (.mv (.c (.i .i64 1)))]) (.block 0 (.loop (.seq (.seq (.reg 2 [oM 6 5,oM 7 0,oO 8 (.len false (.t 7)),oO 9 (.bin .lss (.t 6) (.t 8))]) (.cond (.t 9) .skip (.exit 0))) (.seq (.block 1 (.seq (.drw 4 [⟨oM 12 1,0,2⟩,⟨oM 13 0,0,1⟩,⟨oM 14 5,0,32⟩,⟨oO 15 (.bin .sub (.t 14) (.c (.i .i64 1))),4,16384⟩,⟨oO 16 (.iad 34 (.t 13) (.t 15)),14,40960⟩,⟨oO 17 (.ld (some 34) (.t 16)),30,65536⟩,⟨oM 18 0,0,1⟩,⟨oM 19 5,0,32⟩,⟨oO 20 (.iad 34 (.t 18) (.t 19)),192,786432⟩,⟨oO 21 (.ld (some 34) (.t 20)),448,1048576⟩,⟨oO 22 (.call (.t 12) [.t 17,.t 21]),1023,2232320⟩,⟨oO 23 (.bin .geq (.t 22) (.c (.i .i64 0))),2047,4194304⟩]) (.cond (.t 23) (.seq (.reg 5 [oO 4 (.mv (.c (.b false)))]) .ret) .skip))) (.reg 3 [oM 10 5,oO 11 (.bin .add (.t 10) (.c (.i .i64 1))),oM 5 11])))))) (.seq (.reg 6 [oO 4 (.mv (.c (.b true)))]) .ret))⟩
theorem YEh:J0o Tryz.prog Tryz.f189=some w189:=by kernel_rfl
noncomputable def w193:CF:=(J0o Tryz.prog Tryz.f193).getD ⟨0,[],.ret⟩
theorem YUA:J0o Tryz.prog Tryz.f193=some w193:=by kernel_rfl
noncomputable def w194:CF:=(J0o Tryz.prog Tryz.f194).getD ⟨0,[],.ret⟩
theorem QxL:J0o Tryz.prog Tryz.f194=some w194:=by kernel_rfl
noncomputable def w195:CF:=(J0o Tryz.prog Tryz.f195).getD ⟨0,[],.ret⟩
theorem QDB:J0o Tryz.prog Tryz.f195=some w195:=by kernel_rfl
def w196:CF:=⟨8,[.t 4],.seq (.reg 0 [oO 2 (.box true 32 (.t 0)),oO 3 (.box true 32 (.t 1)),oO 4 (.mv (.c (.i .i64 0)))]) (.seq (.drw 1 [⟨oO 5 (.sla 32 1 (.t 2) none none none),0,4⟩,⟨oO 6 (.sla 32 1 (.t 3) none none none),0,8⟩,⟨oO 7 (.call (.c (.f (.func 266) [] [])) [.t 5,.t 6]),3,96⟩,⟨oM 4 7,7,128⟩]) .ret)⟩
theorem ZRd:J0o Tryz.prog Tryz.f196=some w196:=by kernel_rfl
def w197:CF:=⟨13,[.t 6],.seq (.reg 0 [oO 6 (.mv (.c (.b false)))]) (.seq (.reg 1 [oM 7 0,oM 8 7,oT 9 8 (.mv (.t 1)),oT 10 8 (.mv (.t 2)),oT 11 8 (.bin .leq (.t 9) (.t 10)),oO 12 (.pick (.t 8) (.t 11) (.c (.b false))),oM 6 12]) .ret)⟩
theorem X8u:J0o Tryz.prog Tryz.f197=some w197:=by kernel_rfl
def w198:CF:=⟨18,[.t 6],.seq (.reg 0 [oO 4 (.box false 1 (.t 1)),oO 5 (.box false 1 (.t 2)),oO 6 (.mv (.c .ns))]) (.seq (.seq (.reg 1 [oM 9 0]) (.block 0 (.rf (.t 9) [10,11] (.seq (.reg 2 [oM 7 10]) (.reg 3 [oM 8 11])) (.block 1 (.reg 4 [oO 12 (.ld none (.t 5)),oO 13 (.ld none (.t 4)),oM 14 7,oM 15 8,oO 16 (.call (.t 12) [.t 13,.t 14,.t 15]),⟨none,none,.st none (.t 4) (.t 16)⟩]))))) (.seq (.reg 5 [oO 17 (.ld none (.t 4)),oM 6 17]) .ret))⟩
theorem Q9z:J0o Tryz.prog Tryz.f198=some w198:=by kernel_rfl
def w199:CF:=⟨15,[.t 7],.seq (.reg 0 [oO 7 (.mv (.c .ns))]) (.seq (.reg 1 [oM 8 0,oO 9 (.ld none (.t 3)),oM 10 1,oM 11 2,oO 12 (.call (.t 9) [.t 10,.t 11]),oO 13 (.bls true 1 [.i .i64 0] [(0,1,.t 12)]),oO 14 (.app false true 1 8 (.t 8) (.t 13)),oM 7 14]) .ret)⟩
theorem KJX:J0o Tryz.prog Tryz.f199=some w199:=by kernel_rfl
def w200:CF:=⟨25,[.t 4],.seq (.reg 0 [oO 4 (.mv (.c (.i .i64 0)))]) (.seq (.seq (.reg 1 [oM 7 0,oO 8 (.call (.c (.f (.func 201) [] [])) [.t 7])]) (.cond (.t 8) (.seq (.reg 2 [oO 4 (.mv (.c (.i .i64 0)))]) .ret) .skip)) (.seq (.reg 3 [oM 9 0,oO 10 (.nck (.t 9)),oO 11 (.fad 2 (.t 10)),oO 12 (.ld none (.t 11)),oM 5 12]) (.seq (.reg 4 [oM 13 0,oO 14 (.call (.c (.f (.func 202) [] [])) [.t 13]),oM 6 14]) (.seq (.seq (.reg 5 [oM 15 6,oM 16 1,oO 17 (.bin .gtr (.t 15) (.t 16))]) (.cond (.t 17) (.reg 6 [oM 18 0,oO 19 (.nck (.t 18)),oO 20 (.fad 0 (.t 19)),oO 21 (.ld none (.t 20)),oM 22 5,oO 23 (.call (.c (.f (.func 258) [] [])) [.t 21,.c (.i .i64 4),.t 22])]) .skip)) (.seq (.reg 7 [oM 24 6,oM 4 24]) .ret)))))⟩
theorem Zun:J0o Tryz.prog Tryz.f200=some w200:=by kernel_rfl
def w201:CF:=⟨19,[.t 2],.seq (.reg 0 [oO 2 (.mv (.c (.b false)))]) (.seq (.reg 1 [oM 3 0,oO 4 (.eqn false (.t 3) (.c .np)),oM 5 4,oF 6 5 (.mv (.t 0)),oF 7 5 (.nck (.t 6)),oF 8 5 (.fad 0 (.t 7)),oF 9 5 (.ld none (.t 8)),oF 10 5 (.eqn false (.t 9) (.c .np)),oO 11 (.pick (.t 5) (.c (.b true)) (.t 10)),oM 12 11,oF 13 12 (.mv (.t 0)),oF 14 12 (.nck (.t 13)),oF 15 12 (.fad 0 (.t 14)),oF 16 12 (.ld none (.t 15)),oF 17 12 (.call (.c (.f (.func 169) [] [])) [.t 16]),oO 18 (.pick (.t 12) (.c (.b true)) (.t 17)),oM 2 18]) .ret)⟩
theorem Kfv:J0o Tryz.prog Tryz.f201=some w201:=by kernel_rfl
def w202:CF:=⟨146,[.t 2],.seq (.reg 0 [oO 2 (.mv (.c (.i .i64 0)))]) (.seq (.seq (.reg 1 [oM 8 0,oO 9 (.call (.c (.f (.func 201) [] [])) [.t 8])]) (.cond (.t 9) (.seq (.reg 2 [oO 2 (.mv (.c (.i .i64 0)))]) .ret) .skip)) (.seq (.seq (.drw 3 [⟨oM 10 0,0,1⟩,⟨oO 11 (.nck (.t 10)),1,1024⟩,⟨oO 12 (.fad 2 (.t 11)),3,2048⟩,⟨oO 13 (.ld none (.t 12)),7,4096⟩,⟨oM 14 0,0,1⟩,⟨oO 15 (.nck (.t 14)),16,16384⟩,⟨oO 16 (.fad 1 (.t 15)),48,32768⟩,⟨oO 17 (.ld none (.t 16)),112,65536⟩,⟨oO 18 (.len false (.t 17)),240,131072⟩,⟨oO 19 (.bin .geq (.t 13) (.t 18)),511,270336⟩]) (.cond (.t 19) (.seq (.drw 4 [⟨oM 20 0,0,1⟩,⟨oO 21 (.nck (.t 20)),1,1048576⟩,⟨oO 22 (.fad 0 (.t 21)),3,2097152⟩,⟨oO 23 (.ld none (.t 22)),7,4194304⟩,⟨oM 24 0,0,1⟩,⟨oO 25 (.nck (.t 24)),16,16777216⟩,⟨oO 26 (.fad 2 (.t 25)),48,33554432⟩,⟨oO 27 (.ld none (.t 26)),112,67108864⟩,⟨oO 28 (.call (.c (.f (.func 258) [] [])) [.t 23,.c (.i .i64 6),.t 27]),255,142606336⟩]) (.seq (.reg 5 [oO 2 (.mv (.c (.i .i64 0)))]) .ret)) .skip)) (.seq (.drw 6 [⟨oM 29 0,0,1⟩,⟨oO 30 (.nck (.t 29)),1,536870912⟩,⟨oO 31 (.fad 1 (.t 30)),3,1073741824⟩,⟨oO 32 (.ld none (.t 31)),7,2147483648⟩,⟨oM 33 0,0,1⟩,⟨oO 34 (.nck (.t 33)),16,8589934592⟩,⟨oO 35 (.fad 2 (.t 34)),48,17179869184⟩,⟨oO 36 (.ld none (.t 35)),112,34359738368⟩,⟨oO 37 (.iad 1 (.t 32) (.t 36)),255,73014444032⟩,⟨oO 38 (.ld none (.t 37)),511,137438953472⟩,⟨oO 39 (.cvi .i64 (.t 38)),1023,274877906944⟩,⟨oM 3 39,2047,549755813888⟩]) (.seq (.reg 7 [oM 40 3,oO 41 (.bin .sub (.t 40) (.c (.i .i64 191))),oO 42 (.mm true (.t 41) (.c (.i .i64 0))),oM 4 42]) (.seq (.block 0 (.seq (.reg 8 [oM 44 3,oO 45 (.bin .gtr (.t 44) (.c (.i .i64 199))),oM 43 45]) (.cond (.t 43) (.seq (.drw 9 [⟨oM 46 0,0,1⟩,⟨oO 47 (.nck (.t 46)),1,70368744177664⟩,⟨oO 48 (.fad 0 (.t 47)),3,140737488355328⟩,⟨oO 49 (.ld none (.t 48)),7,281474976710656⟩,⟨oM 50 0,0,1⟩,⟨oO 51 (.nck (.t 50)),16,1125899906842624⟩,⟨oO 52 (.fad 2 (.t 51)),48,2251799813685248⟩,⟨oO 53 (.ld none (.t 52)),112,4503599627370496⟩,⟨oO 54 (.call (.c (.f (.func 258) [] [])) [.t 49,.c (.i .i64 5),.t 53]),255,9570149208162304⟩]) (.seq (.reg 10 [oO 2 (.mv (.c (.i .i64 0)))]) .ret)) (.seq (.drw 11 [⟨oM 56 0,0,1⟩,⟨oO 57 (.nck (.t 56)),1,72057594037927936⟩,⟨oO 58 (.fad 1 (.t 57)),3,144115188075855872⟩,⟨oO 59 (.ld none (.t 58)),7,288230376151711744⟩,⟨oO 60 (.len false (.t 59)),15,576460752303423488⟩,⟨oM 61 0,0,1⟩,⟨oO 62 (.nck (.t 61)),32,2305843009213693952⟩,⟨oO 63 (.fad 2 (.t 62)),96,4611686018427387904⟩,⟨oO 64 (.ld none (.t 63)),224,9223372036854775808⟩,⟨oO 65 (.bin .sub (.t 60) (.t 64)),511,19599665578316398592⟩,⟨oO 66 (.bin .sub (.t 65) (.c (.i .i64 1))),1023,36893488147419103232⟩,⟨oM 67 4,0,16⟩,⟨oO 68 (.bin .lss (.t 66) (.t 67)),4095,221360928884514619392⟩,⟨oM 55 68,8191,295147905179352825856⟩]) (.cond (.t 55) (.seq (.drw 12 [⟨oM 69 0,0,1⟩,⟨oO 70 (.nck (.t 69)),1,590295810358705651712⟩,⟨oO 71 (.fad 0 (.t 70)),3,1180591620717411303424⟩,⟨oO 72 (.ld none (.t 71)),7,2361183241434822606848⟩,⟨oM 73 0,0,1⟩,⟨oO 74 (.nck (.t 73)),16,9444732965739290427392⟩,⟨oO 75 (.fad 2 (.t 74)),48,18889465931478580854784⟩,⟨oO 76 (.ld none (.t 75)),112,37778931862957161709568⟩,⟨oO 77 (.call (.c (.f (.func 258) [] [])) [.t 72,.c (.i .i64 6),.t 76]),255,80280230208783968632832⟩]) (.seq (.reg 13 [oO 2 (.mv (.c (.i .i64 0)))]) .ret)) (.seq (.reg 14 [oM 79 4,oO 80 (.bin .eql (.t 79) (.c (.i .i64 0))),oM 78 80]) (.cond (.t 78) (.seq (.reg 15 [oM 81 0,oO 82 (.nck (.t 81)),oO 83 (.fad 2 (.t 82)),oO 84 (.ld none (.t 83)),oO 85 (.bin .add (.t 84) (.c (.i .i64 1))),oO 86 (.nck (.t 81)),oO 87 (.fad 2 (.t 86)),⟨none,none,.st none (.t 87) (.t 85)⟩]) (.seq (.reg 16 [oM 88 3,oM 2 88]) .ret)) .skip))))))) (.seq (.reg 17 [oO 5 (.mv (.c (.i .u64 0)))]) (.seq (.seq (.drw 18 [⟨oM 89 0,0,1⟩,⟨oO 90 (.nck (.t 89)),1,618970019642690137449562112⟩,⟨oO 91 (.fad 1 (.t 90)),3,1237940039285380274899124224⟩,⟨oO 92 (.ld none (.t 91)),7,2475880078570760549798248448⟩,⟨oM 93 0,0,1⟩,⟨oO 94 (.nck (.t 93)),16,9903520314283042199192993792⟩,⟨oO 95 (.fad 2 (.t 94)),48,19807040628566084398385987584⟩,⟨oO 96 (.ld none (.t 95)),112,39614081257132168796771975168⟩,⟨oO 97 (.bin .add (.t 96) (.c (.i .i64 1))),240,79228162514264337593543950336⟩,⟨oM 98 0,0,1⟩,⟨oO 99 (.nck (.t 98)),512,316912650057057350374175801344⟩,⟨oO 100 (.fad 2 (.t 99)),1536,633825300114114700748351602688⟩,⟨oO 101 (.ld none (.t 100)),3584,1267650600228229401496703205376⟩,⟨oO 102 (.bin .add (.t 101) (.c (.i .i64 1))),7680,2535301200456458802993406410752⟩,⟨oM 103 4,0,16⟩,⟨oO 104 (.bin .add (.t 102) (.t 103)),32256,15211807202738752817960438464512⟩,⟨oO 105 (.sll 1 (.t 92) (some (.t 97)) (some (.t 104)) none),65535,20445817688837340620233935683584⟩,⟨oO 106 (.len false (.t 105)),131071,40564819207303340847894502572032⟩,⟨oO 107 (.mv (.c (.i .i64 0))),0,0⟩]) (.block 1 (.loop (.seq (.reg 19 [oO 108 (.bin .lss (.t 107) (.t 106))]) (.seq (.cond (.t 108) .skip (.exit 1)) (.seq (.block 2 (.seq (.reg 20 [oO 109 (.iad 1 (.t 105) (.t 107)),oO 110 (.ld none (.t 109)),oM 7 110]) (.reg 21 [oM 111 5,oO 112 (.bin .shl (.t 111) (.c (.i .u64 8))),oM 113 7,oO 114 (.cvi .u64 (.t 113)),oO 115 (.bin .or (.t 112) (.t 114)),oM 5 115]))) (.reg 22 [oO 116 (.bin .add (.t 107) (.c (.i .i64 1))),oM 107 116]))))))) (.seq (.seq (.reg 23 [oM 117 5,oO 118 (.bin .geq (.t 117) (.c (.i .u64 9223372036854775808))),oM 119 118,oF 120 119 (.mv (.t 5)),oF 121 119 (.cvi .i64 (.t 120)),oF 122 119 (.call (.c (.f (.func 267) [] [])) [.t 121]),oF 123 119 (.mv (.t 4)),oF 124 119 (.bin .neq (.t 122) (.t 123)),oO 125 (.pick (.t 119) (.c (.b true)) (.t 124))]) (.cond (.t 125) (.seq (.drw 24 [⟨oM 126 0,0,1⟩,⟨oO 127 (.nck (.t 126)),1,85070591730234615865843651857942052864⟩,⟨oO 128 (.fad 0 (.t 127)),3,170141183460469231731687303715884105728⟩,⟨oO 129 (.ld none (.t 128)),7,340282366920938463463374607431768211456⟩,⟨oM 130 0,0,1⟩,⟨oO 131 (.nck (.t 130)),16,1361129467683753853853498429727072845824⟩,⟨oO 132 (.fad 2 (.t 131)),48,2722258935367507707706996859454145691648⟩,⟨oO 133 (.ld none (.t 132)),112,5444517870735015415413993718908291383296⟩,⟨oO 134 (.call (.c (.f (.func 258) [] [])) [.t 129,.c (.i .i64 5),.t 133]),255,11569600475311907757754736652680119189504⟩]) (.seq (.reg 25 [oO 2 (.mv (.c (.i .i64 0)))]) .ret)) .skip)) (.seq (.reg 26 [oM 135 0,oO 136 (.nck (.t 135)),oO 137 (.fad 2 (.t 136)),oO 138 (.ld none (.t 137)),oM 139 4,oO 140 (.bin .add (.c (.i .i64 1)) (.t 139)),oO 141 (.bin .add (.t 138) (.t 140)),oO 142 (.nck (.t 135)),oO 143 (.fad 2 (.t 142)),⟨none,none,.st none (.t 143) (.t 141)⟩]) (.seq (.reg 27 [oM 144 5,oO 145 (.cvi .i64 (.t 144)),oM 2 145]) .ret))))))))))⟩
theorem ZTK:J0o Tryz.prog Tryz.f202=some w202:=by kernel_rfl
def w203:CF:=⟨26,[.t 2],.seq (.reg 0 [oO 2 (.mv (.c (.b false)))]) (.seq (.reg 1 [oM 3 0,oO 4 (.nck (.t 3)),oO 5 (.fad 2 (.t 4)),oO 6 (.ld (some 2) (.t 5)),oO 7 (.bld [.i .i64 0,.i .i64 0] []),oO 8 (.eqc [.i,.i] true (.t 6) (.t 7)),oM 9 8,oF 10 9 (.mv (.t 0)),oF 11 9 (.nck (.t 10)),oF 12 9 (.fad 0 (.t 11)),oF 13 9 (.ld none (.t 12)),oF 14 9 (.call (.c (.f (.func 204) [] [])) [.t 13]),oF 15 9 (.bin .eql (.t 14) (.c (.i .i64 0))),oF 16 9 (.mv (.t 15)),oT 17 16 (.mv (.t 0)),oT 18 16 (.nck (.t 17)),oT 19 16 (.fad 0 (.t 18)),oT 20 16 (.ld none (.t 19)),oT 21 16 (.call (.c (.f (.func 107) [] [])) [.t 20]),oT 22 16 (.bld [.i .i64 0,.i .i64 0] []),oT 23 16 (.eqc [.i,.i] true (.t 21) (.t 22)),oF 24 9 (.pick (.t 16) (.t 23) (.c (.b false))),oO 25 (.pick (.t 9) (.c (.b true)) (.t 24)),oM 2 25]) .ret)⟩
theorem Xnl:J0o Tryz.prog Tryz.f203=some w203:=by kernel_rfl
def w204:CF:=⟨15,[.t 2],.seq (.reg 0 [oO 2 (.mv (.c (.i .i64 0)))]) (.seq (.seq (.reg 1 [oM 3 0,oO 4 (.call (.c (.f (.func 201) [] [])) [.t 3])]) (.cond (.t 4) (.seq (.reg 2 [oO 2 (.mv (.c (.i .i64 0)))]) .ret) .skip)) (.seq (.drw 3 [⟨oM 5 0,0,1⟩,⟨oO 6 (.nck (.t 5)),1,32⟩,⟨oO 7 (.fad 1 (.t 6)),3,64⟩,⟨oO 8 (.ld none (.t 7)),7,128⟩,⟨oO 9 (.len false (.t 8)),15,256⟩,⟨oM 10 0,0,1⟩,⟨oO 11 (.nck (.t 10)),32,1024⟩,⟨oO 12 (.fad 2 (.t 11)),96,2048⟩,⟨oO 13 (.ld none (.t 12)),224,4096⟩,⟨oO 14 (.bin .sub (.t 9) (.t 13)),511,8704⟩,⟨oM 2 14,1023,16384⟩]) .ret))⟩
theorem q4B:J0o Tryz.prog Tryz.f204=some w204:=by kernel_rfl
def w205:CF:=⟨14,[.t 4],.seq (.reg 0 [oO 4 (.mv (.c .ns))]) (.seq (.reg 1 [oM 6 0,oO 7 (.call (.c (.f (.func 268) [] [])) [.t 6]),oM 5 7]) (.seq (.reg 2 [oM 8 0,oM 9 0,oM 10 1,oO 11 (.call (.c (.f (.func 200) [] [])) [.t 9,.t 10]),oM 12 5,oO 13 (.call (.c (.f (.func 269) [] [])) [.t 8,.t 11,.t 12]),oM 4 13]) .ret))⟩
theorem qSj:J0o Tryz.prog Tryz.f205=some w205:=by kernel_rfl
def w206:CF:=⟨19,[],.seq (.reg 0 [oO 3 (.ld none (.t 0)),oO 4 (.nck (.t 3)),oO 5 (.fad 0 (.t 4)),oO 6 (.ld none (.t 5)),oO 7 (.call (.c (.f (.func 207) [] [])) [.t 6]),oO 8 (.bld [.i .i64 0,.i .i64 0,oZ,oZ,oZ,oZ,oZ,oZ,oZ,oZ,oZ,oZ,oZ,oZ,oZ,oZ,oZ,oZ,oZ,oZ,oZ,oZ,oZ,oZ,oZ,oZ,oZ,oZ,oZ,oZ,oZ,oZ,oZ,oZ] [(0,2,.t 7)]),oO 2 (.new true [.i .i64 0,.i .i64 0,oZ,oZ,oZ,oZ,oZ,oZ,oZ,oZ,oZ,oZ,oZ,oZ,oZ,oZ,oZ,oZ,oZ,oZ,oZ,oZ,oZ,oZ,oZ,oZ,oZ,oZ,oZ,oZ,oZ,oZ,oZ,oZ]),⟨none,none,.st (some 34) (.t 2) (.t 8)⟩]) (.seq (.reg 1 [oO 9 (.ld none (.t 0)),oO 10 (.nck (.t 9)),oO 11 (.fad 0 (.t 10)),oO 12 (.ld none (.t 11)),oO 13 (.call (.c (.f (.func 208) [] [])) [.t 12]),oO 14 (.fad 2 (.t 2)),⟨none,none,.st (some 32) (.t 14) (.t 13)⟩]) (.reg 2 [oO 15 (.ld none (.t 1)),oO 16 (.ld (some 34) (.t 2)),oO 17 (.bls true 1 [.i .i64 0,.i .i64 0,oZ,oZ,oZ,oZ,oZ,oZ,oZ,oZ,oZ,oZ,oZ,oZ,oZ,oZ,oZ,oZ,oZ,oZ,oZ,oZ,oZ,oZ,oZ,oZ,oZ,oZ,oZ,oZ,oZ,oZ,oZ,oZ] [(0,34,.t 16)]),oO 18 (.app false true 34 48 (.t 15) (.t 17)),⟨none,none,.st none (.t 1) (.t 18)⟩]))⟩
theorem Jly:J0o Tryz.prog Tryz.f206=some w206:=by kernel_rfl
def w207:CF:=⟨14,[.cell 2 (some 2)],.seq (.reg 0 [oO 2 (.new true [.i .i64 0,.i .i64 0])]) (.seq (.reg 1 [oM 4 0,oO 5 (.call (.c (.f (.func 202) [] [])) [.t 4]),oO 6 (.bld [.i .i64 0,.i .i64 0] [(0,1,.t 5)]),oO 3 (.new true [.i .i64 0,.i .i64 0]),⟨none,none,.st (some 2) (.t 3) (.t 6)⟩]) (.seq (.reg 2 [oM 7 0,oO 8 (.call (.c (.f (.func 202) [] [])) [.t 7]),oO 9 (.fad 1 (.t 3)),⟨none,none,.st none (.t 9) (.t 8)⟩]) (.seq (.seq (.reg 3 [oM 10 0,oO 11 (.call (.c (.f (.func 201) [] [])) [.t 10])]) (.cond (.t 11) (.seq (.reg 4 [oO 12 (.bld [.i .i64 0,.i .i64 0] []),⟨none,none,.st (some 2) (.t 2) (.t 12)⟩]) .ret) .skip)) (.seq (.reg 5 [oO 13 (.ld (some 2) (.t 3)),⟨none,none,.st (some 2) (.t 2) (.t 13)⟩]) .ret))))⟩
theorem Xb5:J0o Tryz.prog Tryz.f207=some w207:=by kernel_rfl
def w208:CF:=⟨10,[.cell 2 (some 32)],.seq (.reg 0 [oO 2 (.new true [oZ,oZ,oZ,oZ,oZ,oZ,oZ,oZ,oZ,oZ,oZ,oZ,oZ,oZ,oZ,oZ,oZ,oZ,oZ,oZ,oZ,oZ,oZ,oZ,oZ,oZ,oZ,oZ,oZ,oZ,oZ,oZ])]) (.seq (.drw 1 [⟨oO 3 (.sla 32 1 (.t 2) none none none),0,4⟩,⟨oM 4 0,0,1⟩,⟨oM 5 0,0,1⟩,⟨oO 6 (.call (.c (.f (.func 268) [] [])) [.t 5]),4,32⟩,⟨oO 7 (.call (.c (.f (.func 269) [] [])) [.t 4,.c (.i .i64 32),.t 6]),14,80⟩,⟨oO 8 (.cpy false 1 (.t 3) (.t 7)),31,136⟩]) (.seq (.reg 2 [oO 9 (.ld (some 32) (.t 2)),⟨none,none,.st (some 32) (.t 2) (.t 9)⟩]) .ret))⟩
theorem ZN4:J0o Tryz.prog Tryz.f208=some w208:=by kernel_rfl
noncomputable def w223:CF:=(J0o Tryz.prog Tryz.f223).getD ⟨0,[],.ret⟩
theorem QNy:J0o Tryz.prog Tryz.f223=some w223:=by kernel_rfl
def w224:CF:=⟨18,[.t 2],.seq (.reg 0 [oO 2 (.mv (.c (.i .i64 0)))]) (.seq (.reg 1 [oO 3 (.mv (.c (.i .i64 0)))]) (.seq (.seq (.reg 2 [oM 6 0,oO 7 (.len false (.t 6)),oO 8 (.mv (.c (.i .i64 0)))]) (.block 0 (.loop (.seq (.reg 3 [oO 9 (.bin .lss (.t 8) (.t 7))]) (.seq (.cond (.t 9) .skip (.exit 0)) (.seq (.block 1 (.seq (.reg 4 [oO 10 (.iad 1 (.t 6) (.t 8)),oO 11 (.ld none (.t 10)),oM 5 11]) (.seq (.reg 5 [oM 12 5,oM 13 3,oO 14 (.bin .neq (.t 12) (.t 13))]) (.cond (.t 14) (.seq (.reg 6 [oM 15 5,oM 2 15]) .ret) .skip)))) (.reg 7 [oO 16 (.bin .add (.t 8) (.c (.i .i64 1))),oM 8 16]))))))) (.seq (.reg 8 [oM 17 3,oM 2 17]) .ret)))⟩
theorem YrR:J0o Tryz.prog Tryz.f224=some w224:=by kernel_rfl
def w225:CF:=⟨20,[.t 4],.seq (.reg 0 [oO 4 (.mv (.c (.i .i64 0)))]) (.seq (.reg 1 [oM 7 0,oO 8 (.call (.c (.f (.func 289) [] [])) [.t 7]),oM 5 8]) (.seq (.reg 2 [oM 9 1,oO 10 (.call (.c (.f (.func 289) [] [])) [.t 9]),oM 6 10]) (.seq (.seq (.reg 3 [oM 11 5]) (.cond (.t 11) (.seq (.seq (.reg 4 [oM 12 6]) (.cond (.t 12) (.seq (.reg 5 [oO 4 (.mv (.c (.i .i64 0)))]) .ret) .skip)) (.seq (.reg 6 [oO 4 (.mv (.c (.i .i64 (-1))))]) .ret)) .skip)) (.seq (.seq (.reg 7 [oM 13 6]) (.cond (.t 13) (.seq (.reg 8 [oO 4 (.mv (.c (.i .i64 1)))]) .ret) .skip)) (.seq (.seq (.reg 9 [oM 14 0,oM 15 1,oO 16 (.bin .lss (.t 14) (.t 15))]) (.cond (.t 16) (.seq (.reg 10 [oO 4 (.mv (.c (.i .i64 (-1))))]) .ret) .skip)) (.seq (.seq (.reg 11 [oM 17 0,oM 18 1,oO 19 (.bin .gtr (.t 17) (.t 18))]) (.cond (.t 19) (.seq (.reg 12 [oO 4 (.mv (.c (.i .i64 1)))]) .ret) .skip)) (.seq (.reg 13 [oO 4 (.mv (.c (.i .i64 0)))]) .ret)))))))⟩
theorem ZIc:J0o Tryz.prog Tryz.f225=some w225:=by kernel_rfl
noncomputable def w233:CF:=(J0o Tryz.prog Tryz.f233).getD ⟨0,[],.ret⟩
theorem zlR:J0o Tryz.prog Tryz.f233=some w233:=by kernel_rfl
noncomputable def w234:CF:=(J0o Tryz.prog Tryz.f234).getD ⟨0,[],.ret⟩
theorem Zlp:J0o Tryz.prog Tryz.f234=some w234:=by kernel_rfl
noncomputable def w235:CF:=(J0o Tryz.prog Tryz.f235).getD ⟨0,[],.ret⟩
theorem QYg:J0o Tryz.prog Tryz.f235=some w235:=by kernel_rfl
noncomputable def w236:CF:=(J0o Tryz.prog Tryz.f236).getD ⟨0,[],.ret⟩
theorem ZJr:J0o Tryz.prog Tryz.f236=some w236:=by kernel_rfl
noncomputable def w237:CF:=(J0o Tryz.prog Tryz.f237).getD ⟨0,[],.ret⟩
theorem X8U:J0o Tryz.prog Tryz.f237=some w237:=by kernel_rfl
noncomputable def w238:CF:=(J0o Tryz.prog Tryz.f238).getD ⟨0,[],.ret⟩
theorem X2G:J0o Tryz.prog Tryz.f238=some w238:=by kernel_rfl
noncomputable def w239:CF:=(J0o Tryz.prog Tryz.f239).getD ⟨0,[],.ret⟩
theorem YX6:J0o Tryz.prog Tryz.f239=some w239:=by kernel_rfl
noncomputable def w240:CF:=(J0o Tryz.prog Tryz.f240).getD ⟨0,[],.ret⟩
theorem YZg:J0o Tryz.prog Tryz.f240=some w240:=by kernel_rfl
noncomputable def w241:CF:=(J0o Tryz.prog Tryz.f241).getD ⟨0,[],.ret⟩
theorem Y5h:J0o Tryz.prog Tryz.f241=some w241:=by kernel_rfl
def w248:CF:=⟨25,[],.seq (.reg 0 [oO 5 (.ld none (.t 1)),oO 6 (.len false (.t 5)),oO 7 (.ld none (.t 2)),oO 8 (.len false (.t 7)),oO 9 (.mm true (.t 6) (.t 8)),oO 10 (.mv (.c (.i .i64 0)))]) (.block 0 (.loop (.seq (.reg 1 [oO 11 (.bin .lss (.t 10) (.t 9))]) (.seq (.cond (.t 11) .skip (.exit 0)) (.seq (.block 1 (.seq (.reg 2 [oM 12 10,oM 4 12]) (.seq (.drw 3 [⟨oM 13 0,0,1⟩,⟨oO 14 (.ld none (.t 1)),0,2⟩,⟨oM 15 4,0,16⟩,⟨oO 16 (.bin .add (.t 15) (.c (.i .i64 1))),4,32768⟩,⟨oO 17 (.call (.c (.f (.func 163) [] [])) [.t 14,.t 16]),14,81920⟩,⟨oO 18 (.ld none (.t 2)),0,4⟩,⟨oM 19 4,0,16⟩,⟨oO 20 (.bin .add (.t 19) (.c (.i .i64 1))),64,524288⟩,⟨oO 21 (.call (.c (.f (.func 163) [] [])) [.t 18,.t 20]),254,1310720⟩,⟨oO 22 (.call (.t 13) [.t 17,.t 21]),511,2236416⟩,⟨oO 23 (.un .not (.t 22)),1023,4194304⟩]) (.cond (.t 23) .ret .skip)))) (.reg 4 [oO 24 (.bin .add (.t 10) (.c (.i .i64 1))),oM 10 24]))))))⟩
theorem QFT:J0o Tryz.prog Tryz.f248=some w248:=by kernel_rfl
noncomputable def w249:CF:=(J0o Tryz.prog Tryz.f249).getD ⟨0,[],.ret⟩
theorem JjD:J0o Tryz.prog Tryz.f249=some w249:=by kernel_rfl
def w250:CF:=⟨8,[.t 4],.seq (.reg 0 [oO 4 (.mv (.c (.i .i64 0)))]) (.seq (.reg 1 [oM 5 0,oM 6 1,oO 7 (.bcmp (.t 5) (.t 6)),oM 4 7]) .ret)⟩
theorem qjN:J0o Tryz.prog Tryz.f250=some w250:=by kernel_rfl
noncomputable def w252:CF:=(J0o Tryz.prog Tryz.f252).getD ⟨0,[],.ret⟩
theorem zFm:J0o Tryz.prog Tryz.f252=some w252:=by kernel_rfl
noncomputable def w254:CF:=(J0o Tryz.prog Tryz.f254).getD ⟨0,[],.ret⟩
theorem qBT:J0o Tryz.prog Tryz.f254=some w254:=by kernel_rfl
noncomputable def w256:CF:=(J0o Tryz.prog Tryz.f256).getD ⟨0,[],.ret⟩
theorem Qsr:J0o Tryz.prog Tryz.f256=some w256:=by kernel_rfl
def w257:CF:=⟨157,[.t 4,.t 5],.seq (.reg 0 [oO 4 (.mv (.c .ns)),oO 5 (.mv (.c (.b false)))]) (.seq (.seq (.reg 1 [oM 17 1]) (.block 0 (.seq (.reg 2 [oO 18 (.tas (.t 17) 3 true (.i .i64 0)),oO 19 (.ext (.t 18) 1),oO 20 (.ext (.t 18) 0)]) (.cond (.t 19) (.seq (.reg 3 [oM 6 20]) (.seq (.reg 4 [oM 21 6,oO 22 (.call (.c (.f (.func 267) [] [])) [.t 21]),oM 7 22]) (.seq (.seq (.reg 5 [oM 23 7,oO 24 (.bin .eql (.t 23) (.c (.i .i64 0)))]) (.cond (.t 24) (.seq (.reg 6 [oM 25 0,oM 26 6,oO 27 (.cvi .u8 (.t 26)),oO 28 (.bls true 1 [.i .u8 0] [(0,1,.t 27)]),oO 29 (.app false true 1 1 (.t 25) (.t 28)),oM 30 6,oO 31 (.bin .geq (.t 30) (.c (.i .i64 0))),oM 4 29,oM 5 31]) .ret) .skip)) (.seq (.reg 7 [oM 32 0,oM 33 7,oO 34 (.bin .add (.c (.i .i64 191)) (.t 33)),oO 35 (.cvi .u8 (.t 34)),oO 36 (.bls true 1 [.i .u8 0] [(0,1,.t 35)]),oO 37 (.app false true 1 1 (.t 32) (.t 36)),oM 0 37]) (.seq (.seq (.reg 8 [oM 38 7,oO 39 (.mv (.c (.i .i64 0)))]) (.block 1 (.loop (.seq (.reg 9 [oO 40 (.bin .lss (.t 39) (.t 38))]) (.seq (.cond (.t 40) .skip (.exit 1)) (.seq (.block 2 (.seq (.reg 10 [oM 41 39,oM 8 41]) (.reg 11 [oM 42 0,oM 43 6,oM 44 7,oO 45 (.bin .sub (.t 44) (.c (.i .i64 1))),oM 46 8,oO 47 (.bin .sub (.t 45) (.t 46)),oO 48 (.bin .mul (.c (.i .i64 8)) (.t 47)),oO 49 (.bin .shr (.t 43) (.t 48)),oO 50 (.cvi .u8 (.t 49)),oO 51 (.bls true 1 [.i .u8 0] [(0,1,.t 50)]),oO 52 (.app false true 1 1 (.t 42) (.t 51)),oM 0 52]))) (.reg 12 [oO 53 (.bin .add (.t 39) (.c (.i .i64 1))),oM 39 53]))))))) (.seq (.reg 13 [oM 54 0,oM 4 54,oO 5 (.mv (.c (.b true)))]) .ret)))))) (.seq (.reg 14 [oO 55 (.tas (.t 17) 9 true (.s [])),oO 56 (.ext (.t 55) 1),oO 57 (.ext (.t 55) 0)]) (.cond (.t 56) (.seq (.reg 15 [oM 9 57]) (.seq (.reg 16 [oM 59 0,oM 60 9,oO 61 (.len true (.t 60)),oO 62 (.ifc 3 (.t 61)),oO 63 (.call (.c (.f (.func 257) [] [])) [.t 59,.t 62]),oM 58 63,oO 64 (.ext (.t 58) 0),oO 65 (.ext (.t 58) 1),oM 0 64]) (.seq (.reg 17 [oM 66 0,oM 67 9,oO 68 (.app true true 1 1 (.t 66) (.t 67)),oM 4 68,oO 5 (.mv (.c (.b true)))]) .ret))) (.seq (.reg 18 [oO 69 (.tas (.t 17) 32 true .ns),oO 70 (.ext (.t 69) 1),oO 71 (.ext (.t 69) 0)]) (.cond (.t 70) (.seq (.reg 19 [oM 10 71]) (.seq (.reg 20 [oM 73 0,oM 74 10,oO 75 (.len false (.t 74)),oO 76 (.ifc 3 (.t 75)),oO 77 (.call (.c (.f (.func 257) [] [])) [.t 73,.t 76]),oM 72 77,oO 78 (.ext (.t 72) 0),oO 79 (.ext (.t 72) 1),oM 0 78]) (.seq (.reg 21 [oM 80 0,oM 81 10,oO 82 (.app false true 1 1 (.t 80) (.t 81)),oM 4 82,oO 5 (.mv (.c (.b true)))]) .ret))) (.seq (.reg 22 [oO 83 (.tas (.t 17) 42 true (.ag [oZ,oZ,oZ,oZ,oZ,oZ,oZ,oZ,oZ,oZ,oZ,oZ,oZ,oZ,oZ,oZ,oZ,oZ,oZ,oZ,oZ,oZ,oZ,oZ,oZ,oZ,oZ,oZ,oZ,oZ,oZ,oZ])),oO 84 (.ext (.t 83) 1),oO 85 (.ext (.t 83) 0)]) (.cond (.t 84) (.seq (.reg 23 [oO 11 (.new true [oZ,oZ,oZ,oZ,oZ,oZ,oZ,oZ,oZ,oZ,oZ,oZ,oZ,oZ,oZ,oZ,oZ,oZ,oZ,oZ,oZ,oZ,oZ,oZ,oZ,oZ,oZ,oZ,oZ,oZ,oZ,oZ]),⟨none,none,.st (some 32) (.t 11) (.t 85)⟩]) (.seq (.reg 24 [oM 86 0,oO 87 (.sla 32 1 (.t 11) none none none),oO 88 (.app false true 1 1 (.t 86) (.t 87)),oM 4 88,oO 5 (.mv (.c (.b true)))]) .ret)) (.seq (.reg 25 [oO 89 (.tas (.t 17) 40 true (.ag [.i .i64 0,.i .i64 0])),oO 90 (.ext (.t 89) 1),oO 91 (.ext (.t 89) 0)]) (.cond (.t 90) (.seq (.reg 26 [oO 12 (.new true [.i .i64 0,.i .i64 0]),⟨none,none,.st (some 2) (.t 12) (.t 91)⟩]) (.seq (.reg 27 [oM 93 0,oO 94 (.fad 0 (.t 12)),oO 95 (.ld none (.t 94)),oO 96 (.ifc 3 (.t 95)),oO 97 (.call (.c (.f (.func 257) [] [])) [.t 93,.t 96]),oM 92 97,oO 98 (.ext (.t 92) 0),oO 99 (.ext (.t 92) 1),oM 0 98]) (.seq (.reg 28 [oM 101 0,oO 102 (.fad 1 (.t 12)),oO 103 (.ld none (.t 102)),oO 104 (.ifc 3 (.t 103)),oO 105 (.call (.c (.f (.func 257) [] [])) [.t 101,.t 104]),oM 100 105,oO 106 (.ext (.t 100) 0),oO 107 (.ext (.t 100) 1),oM 0 106]) (.seq (.drw 29 [⟨oM 108 0,0,1⟩,⟨oO 109 (.fad 0 (.t 12)),0,4096⟩,⟨oO 110 (.ld none (.t 109)),2,649037107316853453566312041152512⟩,⟨oO 111 (.bin .geq (.t 110) (.c (.i .i64 0))),6,1298074214633706907132624082305024⟩,⟨oM 112 111,14,2596148429267413814265248164610048⟩,⟨oT 113 112 (.fad 1 (.t 12)),30,5192296858534827628530496329224192⟩,⟨oT 114 112 (.ld none (.t 113)),62,15576890575604482885591488987660288⟩,⟨oT 115 112 (.bin .geq (.t 114) (.c (.i .i64 0))),126,25961484292674138142652481646100480⟩,⟨oO 116 (.pick (.t 112) (.t 115) (.c (.b false))),254,46730671726813448656774466962980864⟩,⟨oM 4 108,31,324518553658426726783156020576256⟩,⟨oM 5 116,1023,83076749736557242056487941267521536⟩]) .ret)))) (.seq (.reg 30 [oO 117 (.tas (.t 17) 22 true .ns),oO 118 (.ext (.t 117) 1),oO 119 (.ext (.t 117) 0)]) (.cond (.t 118) (.seq (.reg 31 [oM 13 119]) (.seq (.reg 32 [oM 121 0,oM 122 13,oO 123 (.len false (.t 122)),oO 124 (.ifc 3 (.t 123)),oO 125 (.call (.c (.f (.func 257) [] [])) [.t 121,.t 124]),oM 120 125,oO 126 (.ext (.t 120) 0),oO 127 (.ext (.t 120) 1),oM 0 126]) (.seq (.seq (.reg 33 [oM 128 13,oO 129 (.len false (.t 128)),oO 130 (.mv (.c (.i .i64 0)))]) (.block 3 (.loop (.seq (.reg 34 [oO 131 (.bin .lss (.t 130) (.t 129))]) (.seq (.cond (.t 131) .skip (.exit 3)) (.seq (.block 4 (.seq (.reg 35 [oO 132 (.iad 1 (.t 128) (.t 130)),oO 133 (.ld none (.t 132)),oM 15 133]) (.reg 36 [oM 135 0,oM 136 15,oO 137 (.ifc 3 (.t 136)),oO 138 (.call (.c (.f (.func 257) [] [])) [.t 135,.t 137]),oM 134 138,oO 139 (.ext (.t 134) 0),oO 140 (.ext (.t 134) 1),oM 0 139]))) (.reg 37 [oO 141 (.bin .add (.t 130) (.c (.i .i64 1))),oM 130 141]))))))) (.seq (.reg 38 [oM 142 0,oM 143 13,oO 144 (.call (.c (.f (.func 292) [] [])) [.t 143,.c (.f (.func 303) [] [])]),oO 145 (.un .not (.t 144)),oM 4 142,oM 5 145]) .ret)))) (.seq (.reg 39 [oO 146 (.tas (.t 17) 4 true (.b false)),oO 147 (.ext (.t 146) 1),oO 148 (.ext (.t 146) 0)]) (.cond (.t 147) (.seq (.reg 40 [oM 16 148]) (.seq (.seq (.reg 41 [oM 149 16]) (.cond (.t 149) (.seq (.reg 42 [oM 150 0,oO 151 (.bls true 1 [.i .u8 0] [(0,1,.c (.i .u8 1))]),oO 152 (.app false true 1 1 (.t 150) (.t 151)),oM 4 152,oO 5 (.mv (.c (.b true)))]) .ret) .skip)) (.seq (.reg 43 [oM 153 0,oO 154 (.bls true 1 [.i .u8 0] [(0,1,.c (.i .u8 0))]),oO 155 (.app false true 1 1 (.t 153) (.t 154)),oM 4 155,oO 5 (.mv (.c (.b true)))]) .ret))) .skip)))))))))))))))) (.seq (.reg 44 [oM 156 0,oM 4 156,oO 5 (.mv (.c (.b true)))]) .ret))⟩
theorem YvR:J0o Tryz.prog Tryz.f257=some w257:=by kernel_rfl
def w258:CF:=⟨18,[],.seq (.reg 0 [oM 6 0,oO 7 (.nck (.t 6)),oO 8 (.fad 0 (.t 7)),oO 9 (.fad 0 (.t 8)),oO 10 (.ld none (.t 9)),oO 11 (.bin .eql (.t 10) (.c (.i .i64 0)))]) (.cond (.t 11) (.reg 1 [oM 12 0,oM 13 1,oM 14 2,oO 15 (.bld [.i .i64 0,.i .i64 0] [(0,1,.t 13),(1,1,.t 14)]),oO 16 (.nck (.t 12)),oO 17 (.fad 0 (.t 16)),⟨none,none,.st (some 2) (.t 17) (.t 15)⟩]) .skip)⟩
theorem qOH:J0o Tryz.prog Tryz.f258=some w258:=by kernel_rfl
def w259:CF:=⟨17,[.t 2],.seq (.reg 0 [oO 2 (.mv (.c (.b false)))]) (.seq (.reg 1 [oM 3 0,oO 4 (.bin .geq (.t 3) (.c (.i .i32 97))),oM 5 4,oT 6 5 (.mv (.t 0)),oT 7 5 (.bin .leq (.t 6) (.c (.i .i32 122))),oO 8 (.pick (.t 5) (.t 7) (.c (.b false))),oM 9 8,oF 10 9 (.mv (.t 0)),oF 11 9 (.bin .geq (.t 10) (.c (.i .i32 48))),oF 12 9 (.mv (.t 11)),oT 13 12 (.mv (.t 0)),oT 14 12 (.bin .leq (.t 13) (.c (.i .i32 57))),oF 15 9 (.pick (.t 12) (.t 14) (.c (.b false))),oO 16 (.pick (.t 9) (.c (.b true)) (.t 15)),oM 2 16]) .ret)⟩
theorem XBD:J0o Tryz.prog Tryz.f259=some w259:=by kernel_rfl
def w260:CF:=⟨9,[.t 4],.seq (.reg 0 [oO 4 (.mv (.c .np))]) (.seq (.seq (.reg 1 [oO 5 (.ld none (.t 1)),oM 6 0,oO 7 (.call (.t 5) [.t 6])]) (.cond (.t 7) (.seq (.reg 2 [oO 8 (.ld none (.t 2)),oM 4 8]) .ret) .skip)) (.seq (.reg 3 [oO 4 (.mv (.c .np))]) .ret))⟩
theorem qIW:J0o Tryz.prog Tryz.f260=some w260:=by kernel_rfl
def w261:CF:=⟨11,[.t 4],.seq (.reg 0 [oO 2 (.box true 1 (.t 0)),oO 4 (.mv (.c .np))]) (.seq (.seq (.reg 1 [oM 5 1,oO 6 (.call (.c (.f (.func 259) [] [])) [.t 5])]) (.cond (.t 6) (.seq (.reg 2 [oO 7 (.ld (some 1) (.t 2)),oO 8 (.mkf (.func 304) [.t 7] []),oO 9 (.bld [.nf,.b false] [(0,1,.t 8),(1,1,.c (.b true))]),oO 10 (.box false 2 (.t 9)),oM 4 10]) .ret) .skip)) (.seq (.reg 3 [oO 4 (.mv (.c .np))]) .ret))⟩
theorem XCu:J0o Tryz.prog Tryz.f261=some w261:=by kernel_rfl
noncomputable def w265:CF:=(J0o Tryz.prog Tryz.f265).getD ⟨0,[],.ret⟩
theorem KTH:J0o Tryz.prog Tryz.f265=some w265:=by kernel_rfl
def w266:CF:=⟨8,[.t 4],.seq (.reg 0 [oO 4 (.mv (.c (.i .i64 0)))]) (.seq (.reg 1 [oM 5 0,oM 6 1,oO 7 (.bcmp (.t 5) (.t 6)),oM 4 7]) .ret)⟩
theorem qKU:J0o Tryz.prog Tryz.f266=some w266:=by kernel_rfl
def w267:CF:=⟨18,[.t 2],.seq (.reg 0 [oO 2 (.mv (.c (.i .i64 0)))]) (.seq (.seq (.reg 1 [oM 4 0,oO 5 (.bin .lss (.t 4) (.c (.i .i64 192)))]) (.cond (.t 5) (.seq (.reg 2 [oO 2 (.mv (.c (.i .i64 0)))]) .ret) .skip)) (.seq (.reg 3 [oO 3 (.mv (.c (.i .i64 1)))]) (.seq (.block 0 (.loop (.seq (.seq (.reg 4 [oM 6 3,oO 7 (.bin .lss (.t 6) (.c (.i .i64 8))),oM 8 7,oT 9 8 (.mv (.t 0)),oT 10 8 (.mv (.t 3)),oT 11 8 (.bin .mul (.c (.i .i64 8)) (.t 10)),oT 12 8 (.bin .shr (.t 9) (.t 11)),oT 13 8 (.bin .gtr (.t 12) (.c (.i .i64 0))),oO 14 (.pick (.t 8) (.t 13) (.c (.b false)))]) (.cond (.t 14) .skip (.exit 0))) (.block 1 (.reg 5 [oM 15 3,oO 16 (.bin .add (.t 15) (.c (.i .i64 1))),oM 3 16]))))) (.seq (.reg 6 [oM 17 3,oM 2 17]) .ret))))⟩
theorem zsp:J0o Tryz.prog Tryz.f267=some w267:=by kernel_rfl
def w268:CF:=⟨9,[.t 2],.seq (.reg 0 [oO 2 (.mv (.c (.i .i64 0)))]) (.seq (.seq (.reg 1 [oM 3 0,oO 4 (.call (.c (.f (.func 201) [] [])) [.t 3])]) (.cond (.t 4) (.seq (.reg 2 [oO 2 (.mv (.c (.i .i64 0)))]) .ret) .skip)) (.seq (.reg 3 [oM 5 0,oO 6 (.nck (.t 5)),oO 7 (.fad 2 (.t 6)),oO 8 (.ld none (.t 7)),oM 2 8]) .ret))⟩
theorem J8m:J0o Tryz.prog Tryz.f268=some w268:=by kernel_rfl
def w269:CF:=⟨53,[.t 6],.seq (.reg 0 [oO 6 (.mv (.c .ns))]) (.seq (.seq (.reg 1 [oM 8 0,oO 9 (.call (.c (.f (.func 201) [] [])) [.t 8])]) (.cond (.t 9) (.seq (.reg 2 [oO 6 (.mv (.c .ns))]) .ret) .skip)) (.seq (.seq (.drw 3 [⟨oM 10 1,0,2⟩,⟨oM 11 0,0,1⟩,⟨oO 12 (.nck (.t 11)),2,2048⟩,⟨oO 13 (.fad 1 (.t 12)),6,4096⟩,⟨oO 14 (.ld none (.t 13)),14,8192⟩,⟨oO 15 (.len false (.t 14)),30,16384⟩,⟨oM 16 0,0,1⟩,⟨oO 17 (.nck (.t 16)),64,65536⟩,⟨oO 18 (.fad 2 (.t 17)),192,131072⟩,⟨oO 19 (.ld none (.t 18)),448,262144⟩,⟨oO 20 (.bin .sub (.t 15) (.t 19)),1022,557056⟩,⟨oO 21 (.bin .gtr (.t 10) (.t 20)),2047,1049600⟩]) (.cond (.t 21) (.seq (.reg 4 [oM 22 0,oO 23 (.nck (.t 22)),oO 24 (.fad 0 (.t 23)),oO 25 (.ld none (.t 24)),oM 26 2,oO 27 (.call (.c (.f (.func 258) [] [])) [.t 25,.c (.i .i64 6),.t 26])]) (.seq (.reg 5 [oO 6 (.mv (.c .ns))]) .ret)) .skip)) (.seq (.drw 6 [⟨oM 28 0,0,1⟩,⟨oO 29 (.nck (.t 28)),1,268435456⟩,⟨oO 30 (.fad 1 (.t 29)),3,536870912⟩,⟨oO 31 (.ld none (.t 30)),7,1073741824⟩,⟨oM 32 0,0,1⟩,⟨oO 33 (.nck (.t 32)),16,4294967296⟩,⟨oO 34 (.fad 2 (.t 33)),48,8589934592⟩,⟨oO 35 (.ld none (.t 34)),112,17179869184⟩,⟨oM 36 0,0,1⟩,⟨oO 37 (.nck (.t 36)),256,68719476736⟩,⟨oO 38 (.fad 2 (.t 37)),768,137438953472⟩,⟨oO 39 (.ld none (.t 38)),1792,274877906944⟩,⟨oM 40 1,0,2⟩,⟨oO 41 (.bin .add (.t 39) (.t 40)),7936,1649267441664⟩,⟨oO 42 (.sll 1 (.t 31) (some (.t 35)) (some (.t 41)) none),16383,2235530477568⟩,⟨oO 43 (.call (.c (.f (.func 170) [] [])) [.t 42]),32767,4398046511104⟩,⟨oM 7 43,65535,8796093022208⟩]) (.seq (.reg 7 [oM 44 0,oO 45 (.nck (.t 44)),oO 46 (.fad 2 (.t 45)),oO 47 (.ld none (.t 46)),oM 48 1,oO 49 (.bin .add (.t 47) (.t 48)),oO 50 (.nck (.t 44)),oO 51 (.fad 2 (.t 50)),⟨none,none,.st none (.t 51) (.t 49)⟩]) (.seq (.reg 8 [oM 52 7,oM 6 52]) .ret)))))⟩
theorem Qn7:J0o Tryz.prog Tryz.f269=some w269:=by kernel_rfl
noncomputable def w287:CF:=(J0o Tryz.prog Tryz.f287).getD ⟨0,[],.ret⟩
theorem Qkz:J0o Tryz.prog Tryz.f287=some w287:=by kernel_rfl
noncomputable def w288:CF:=(J0o Tryz.prog Tryz.f288).getD ⟨0,[],.ret⟩
theorem ZzR:J0o Tryz.prog Tryz.f288=some w288:=by kernel_rfl
def w289:CF:=⟨6,[.t 2],.seq (.reg 0 [oO 2 (.mv (.c (.b false)))]) (.seq (.reg 1 [oM 3 0,oM 4 0,oO 5 (.bin .neq (.t 3) (.t 4)),oM 2 5]) .ret)⟩
theorem ZMV:J0o Tryz.prog Tryz.f289=some w289:=by kernel_rfl
noncomputable def w290:CF:=(J0o Tryz.prog Tryz.f290).getD ⟨0,[],.ret⟩
theorem ZDE:J0o Tryz.prog Tryz.f290=some w290:=by kernel_rfl
noncomputable def w291:CF:=(J0o Tryz.prog Tryz.f291).getD ⟨0,[],.ret⟩
theorem zBL:J0o Tryz.prog Tryz.f291=some w291:=by kernel_rfl
def w292:CF:=⟨9,[.t 4],.seq (.reg 0 [oO 4 (.mv (.c (.b false)))]) (.seq (.reg 1 [oM 5 0,oM 6 1,oO 7 (.call (.c (.f (.func 319) [] [])) [.t 5,.t 6]),oO 8 (.bin .geq (.t 7) (.c (.i .i64 0))),oM 4 8]) .ret)⟩
theorem Z06:J0o Tryz.prog Tryz.f292=some w292:=by kernel_rfl
noncomputable def w300:CF:=(J0o Tryz.prog Tryz.f300).getD ⟨0,[],.ret⟩
theorem JEx:J0o Tryz.prog Tryz.f300=some w300:=by kernel_rfl
noncomputable def w301:CF:=(J0o Tryz.prog Tryz.f301).getD ⟨0,[],.ret⟩
theorem YLo:J0o Tryz.prog Tryz.f301=some w301:=by kernel_rfl
noncomputable def w302:CF:=(J0o Tryz.prog Tryz.f302).getD ⟨0,[],.ret⟩
theorem KoN:J0o Tryz.prog Tryz.f302=some w302:=by kernel_rfl
def w303:CF:=⟨5,[.t 2],.seq (.reg 0 [oO 2 (.mv (.c (.b false)))]) (.seq (.reg 1 [oM 3 0,oO 4 (.bin .lss (.t 3) (.c (.i .i64 0))),oM 2 4]) .ret)⟩
theorem X97:J0o Tryz.prog Tryz.f303=some w303:=by kernel_rfl
def w304:CF:=⟨42,[.t 4],.seq (.reg 0 [oO 2 (.box true 1 (.t 0)),oO 4 (.mv (.c .np))]) (.seq (.block 0 (.seq (.reg 1 [oM 6 1,oO 7 (.bin .eql (.t 6) (.c (.i .i32 47))),oM 8 7,oT 9 8 (.fad 0 (.t 2)),oT 10 8 (.ld none (.t 9)),oT 11 8 (.bin .gtr (.t 10) (.c (.i .i64 0))),oO 12 (.pick (.t 8) (.t 11) (.c (.b false))),oM 5 12]) (.cond (.t 5) (.seq (.reg 2 [oO 13 (.fad 0 (.t 2)),oO 14 (.ld none (.t 13)),oO 15 (.bin .sub (.t 14) (.c (.i .i64 1))),oO 16 (.bld [.i .i64 0] [(0,1,.t 15)]),oO 17 (.call (.c (.f (.func 181) [] [])) [.t 16]),oM 4 17]) .ret) (.seq (.reg 3 [oM 19 1,oO 20 (.bin .eql (.t 19) (.c (.i .i32 46))),oM 18 20]) (.cond (.t 18) (.seq (.reg 4 [oO 21 (.ld (some 1) (.t 2)),oO 22 (.mkf (.func 261) [.t 21] []),oO 23 (.bld [.nf,.b false] [(0,1,.t 22)]),oO 24 (.box false 2 (.t 23)),oM 4 24]) .ret) (.seq (.reg 5 [oM 26 1,oO 27 (.bin .eql (.t 26) (.c (.i .i32 95))),oM 25 27]) (.cond (.t 25) (.seq (.reg 6 [oO 28 (.ld (some 1) (.t 2)),oO 29 (.mkf (.func 332) [.t 28] []),oO 30 (.bld [.nf,.b false] [(0,1,.t 29)]),oO 31 (.box false 2 (.t 30)),oM 4 31]) .ret) (.seq (.reg 7 [oM 33 1,oO 34 (.bin .eql (.t 33) (.c (.i .i32 45))),oM 32 34]) (.cond (.t 32) (.seq (.reg 8 [oO 35 (.ld (some 1) (.t 2)),oO 36 (.mkf (.func 333) [.t 35] []),oO 37 (.bld [.nf,.b false] [(0,1,.t 36)]),oO 38 (.box false 2 (.t 37)),oM 4 38]) .ret) .skip))))))))) (.seq (.reg 9 [oO 39 (.ld (some 1) (.t 2)),oM 40 1,oO 41 (.call (.c (.f (.func 261) [] [])) [.t 39,.t 40]),oM 4 41]) .ret))⟩
theorem qRY:J0o Tryz.prog Tryz.f304=some w304:=by kernel_rfl
noncomputable def w305:CF:=(J0o Tryz.prog Tryz.f305).getD ⟨0,[],.ret⟩
theorem ZQU:J0o Tryz.prog Tryz.f305=some w305:=by kernel_rfl
noncomputable def w306:CF:=(J0o Tryz.prog Tryz.f306).getD ⟨0,[],.ret⟩
theorem Qsa:J0o Tryz.prog Tryz.f306=some w306:=by kernel_rfl
noncomputable def w307:CF:=(J0o Tryz.prog Tryz.f307).getD ⟨0,[],.ret⟩
theorem Xcv:J0o Tryz.prog Tryz.f307=some w307:=by kernel_rfl
noncomputable def w308:CF:=(J0o Tryz.prog Tryz.f308).getD ⟨0,[],.ret⟩
theorem qxv:J0o Tryz.prog Tryz.f308=some w308:=by kernel_rfl
noncomputable def w309:CF:=(J0o Tryz.prog Tryz.f309).getD ⟨0,[],.ret⟩
theorem QRO:J0o Tryz.prog Tryz.f309=some w309:=by kernel_rfl
noncomputable def w310:CF:=(J0o Tryz.prog Tryz.f310).getD ⟨0,[],.ret⟩
theorem Kxf:J0o Tryz.prog Tryz.f310=some w310:=by kernel_rfl
noncomputable def w311:CF:=(J0o Tryz.prog Tryz.f311).getD ⟨0,[],.ret⟩
theorem XRA:J0o Tryz.prog Tryz.f311=some w311:=by kernel_rfl
noncomputable def w312:CF:=(J0o Tryz.prog Tryz.f312).getD ⟨0,[],.ret⟩
theorem Qzt:J0o Tryz.prog Tryz.f312=some w312:=by kernel_rfl
noncomputable def w315:CF:=(J0o Tryz.prog Tryz.f315).getD ⟨0,[],.ret⟩
theorem ZiR:J0o Tryz.prog Tryz.f315=some w315:=by kernel_rfl
noncomputable def w316:CF:=(J0o Tryz.prog Tryz.f316).getD ⟨0,[],.ret⟩
theorem YRE:J0o Tryz.prog Tryz.f316=some w316:=by kernel_rfl
def w319:CF:=⟨19,[.t 4],.seq (.reg 0 [oO 4 (.mv (.c (.i .i64 0)))]) (.seq (.seq (.reg 1 [oM 6 0,oO 7 (.len false (.t 6)),oO 8 (.mv (.c (.i .i64 0)))]) (.block 0 (.loop (.seq (.reg 2 [oO 9 (.bin .lss (.t 8) (.t 7))]) (.seq (.cond (.t 9) .skip (.exit 0)) (.seq (.block 1 (.seq (.reg 3 [oM 10 8,oM 5 10]) (.seq (.reg 4 [oM 11 1,oM 12 0,oM 13 5,oO 14 (.iad 1 (.t 12) (.t 13)),oO 15 (.ld none (.t 14)),oO 16 (.call (.t 11) [.t 15])]) (.cond (.t 16) (.seq (.reg 5 [oM 17 5,oM 4 17]) .ret) .skip)))) (.reg 6 [oO 18 (.bin .add (.t 8) (.c (.i .i64 1))),oM 8 18]))))))) (.seq (.reg 7 [oO 4 (.mv (.c (.i .i64 (-1))))]) .ret))⟩
theorem JVL:J0o Tryz.prog Tryz.f319=some w319:=by kernel_rfl
noncomputable def w329:CF:=(J0o Tryz.prog Tryz.f329).getD ⟨0,[],.ret⟩
theorem XfO:J0o Tryz.prog Tryz.f329=some w329:=by kernel_rfl
noncomputable def w330:CF:=(J0o Tryz.prog Tryz.f330).getD ⟨0,[],.ret⟩
theorem zH2:J0o Tryz.prog Tryz.f330=some w330:=by kernel_rfl
noncomputable def w331:CF:=(J0o Tryz.prog Tryz.f331).getD ⟨0,[],.ret⟩
theorem QPu:J0o Tryz.prog Tryz.f331=some w331:=by kernel_rfl
def w332:CF:=⟨14,[.t 4],.seq (.reg 0 [oO 2 (.box true 1 (.t 0)),oO 4 (.mv (.c .np))]) (.seq (.seq (.reg 1 [oM 5 1,oO 6 (.bin .eql (.t 5) (.c (.i .i32 95)))]) (.cond (.t 6) (.seq (.reg 2 [oO 7 (.ld (some 1) (.t 2)),oO 8 (.mkf (.func 261) [.t 7] []),oO 9 (.bld [.nf,.b false] [(0,1,.t 8)]),oO 10 (.box false 2 (.t 9)),oM 4 10]) .ret) .skip)) (.seq (.reg 3 [oO 11 (.ld (some 1) (.t 2)),oM 12 1,oO 13 (.call (.c (.f (.func 261) [] [])) [.t 11,.t 12]),oM 4 13]) .ret))⟩
theorem X7D:J0o Tryz.prog Tryz.f332=some w332:=by kernel_rfl
def w333:CF:=⟨14,[.t 4],.seq (.reg 0 [oO 2 (.box true 1 (.t 0)),oO 4 (.mv (.c .np))]) (.seq (.seq (.reg 1 [oM 5 1,oO 6 (.bin .eql (.t 5) (.c (.i .i32 45)))]) (.cond (.t 6) (.seq (.reg 2 [oO 7 (.ld (some 1) (.t 2)),oO 8 (.mkf (.func 333) [.t 7] []),oO 9 (.bld [.nf,.b false] [(0,1,.t 8)]),oO 10 (.box false 2 (.t 9)),oM 4 10]) .ret) .skip)) (.seq (.reg 3 [oO 11 (.ld (some 1) (.t 2)),oM 12 1,oO 13 (.call (.c (.f (.func 261) [] [])) [.t 11,.t 12]),oM 4 13]) .ret))⟩
theorem qWY:J0o Tryz.prog Tryz.f333=some w333:=by kernel_rfl
noncomputable def w334:CF:=(J0o Tryz.prog Tryz.f334).getD ⟨0,[],.ret⟩
theorem zd0:J0o Tryz.prog Tryz.f334=some w334:=by kernel_rfl
noncomputable def w335:CF:=(J0o Tryz.prog Tryz.f335).getD ⟨0,[],.ret⟩
theorem XmV:J0o Tryz.prog Tryz.f335=some w335:=by kernel_rfl
noncomputable def w336:CF:=(J0o Tryz.prog Tryz.f336).getD ⟨0,[],.ret⟩
theorem quK:J0o Tryz.prog Tryz.f336=some w336:=by kernel_rfl
noncomputable def w341:CF:=(J0o Tryz.prog Tryz.f341).getD ⟨0,[],.ret⟩
theorem KLG:J0o Tryz.prog Tryz.f341=some w341:=by kernel_rfl
end
section
set_option maxRecDepth 100000
set_option maxHeartbeats 4000000
theorem KxK (k:IntKind) (a b:Int):binV .mul (.i k a) (.i k b)=some (.i k (k.wrap (a*b))):=by simp [binV,binI]
theorem qfj (k k':IntKind) (a:Int) (b:Nat):binV .shr (.i k a) (.i k' (b:Int))=some (.i k (a.fdiv (2 ^ (min b k.bits)))):=by
 simp only[binV]
 rw[if_neg (by omega),Int.toNat_natCast]
theorem zZJ:IntKind.bits .i64=64:=oI rfl
noncomputable def X2a:List AV->List AB->Option (AV×List AB)
 | [.i .i64 n],h=>some (.i .i64 (KyO n),h)
 | _,_=>none
theorem KEp:Spec Tryz.prog 267 X2a:=by
 intro args h v h' e
 unfold X2a at e
 split at e
 ·rename_i n
  cases e
  refine FnAt.c (FnAt.run (by kernel_rfl) (T:=⟨[],[]⟩) ⟨trivial,trivial⟩ Tryz.func267 zsp fun ho hh=>?_)
  unfold w267
  by_cases g1:n<192
  ·have g1':=eq_true g1
   have hr:KyO n=0:=by unfold KyO;rw[if_pos g1]
   simp only[z49,Qs3,XtK,K1H,JS3,simprocAttr,CO.tmps,Opd.tmps,optT,g1']
   rw[hr]
   exact Bt.drop _ hh rfl rfl
  ·have g1':=eq_false g1
   have hr:KyO n=JY5 7 n 1:=by unfold KyO;rw[if_neg g1]
   simp only[z49,Qs3,XtK,K1H,JS3,simprocAttr,CO.tmps,Opd.tmps,optT,g1']
   refine JLk (S:=Nat) (fun k=>8-k) (fun k=>[.i .i64 n]++tp 1++[.i .i64 0,.i .i64 k]++tp 14) (fun _=>h) (fun k=>1<=k/\k<=8/\JY5 7 n 1=JY5 (8-k) n k) 1 ⟨Nat.le_refl _,by decide,rfl⟩ (by rw[List.append_nil];exact Bt.wk (by simp only[XtK,JS3,simprocAttr])) fun k hk=>?_
   obtain ⟨k1,k8,ks⟩:=hk
   by_cases g2:k<8
   ·have g2':((k:Int)<8)=True:=eq_true (by omega)
    have e1:IntKind.i64.wrap (8*(k:Int))=((8*k:Nat):Int):=by rw[Int.natCast_mul];exact Q7p (by unfold In64;omega)
    have e2:IntKind.i64.wrap ((k:Int)+1)=((k+1:Nat):Int):=Q7p (by unfold In64;omega)
    have e3:min (8*k) 64=8*k:=by omega
    have e4:(((8*k:Nat):Int)<0)=False:=eq_false (by omega)
    have e5:Int.fdiv n (2 ^ (8*k))=n / 2 ^ (8*k):=Int.fdiv_eq_ediv_of_nonneg _ (Int.le_of_lt (Int.pow_pos (by decide)))
    have ss:JY5 (8-k) n k=if 0<n / 2 ^ (8*k) then JY5 (8-(k+1)) n (k+1) else k:=by
     rw[show 8-k=(8-(k+1))+1 by omega]
     rfl
    by_cases g3:0<n / 2 ^ (8*k)
    ·have g3':=eq_true g3
     simp only[XtK,K1H,JS3,simprocAttr,CO.tmps,Opd.tmps,optT,g2',e1,e2,e3,e4,e5,g3',KxK,qfj,zZJ]
     exact ⟨k+1,⟨by omega,by omega,by rw[ks,ss,if_pos g3]⟩,by dsimp only;omega,Bt.wk (by simp only[XtK,JS3,simprocAttr])⟩
    ·have g3':=eq_false g3
     simp only[XtK,K1H,JS3,simprocAttr,CO.tmps,Opd.tmps,optT,g2',e1,e2,e3,e4,e5,g3',KxK,qfj,zZJ]
     rw[hr,ks,ss,if_neg g3]
     exact Bt.wk (by simp only[XtK,JS3,simprocAttr])
   ·have g2':((k:Int)<8)=False:=eq_false (by omega)
    simp only[XtK,K1H,JS3,simprocAttr,CO.tmps,Opd.tmps,optT,g2']
    have:k=8:=by omega
    subst this
    rw[hr,ks]
    exact Bt.wk (by simp only[XtK,JS3,simprocAttr,JY5])
 ·cases e
end
section
set_option maxRecDepth 100000
set_option maxHeartbeats 4000000
def zbh:List AV->List AB->Option (AV×List AB)
 | [.p j 0],h=>match zZU h j with
   | some [.i .i64 e,.i .i64 _]=>some (.b (decide (¬e=0)),h)
   | _=>none
 | _,_=>none
theorem ZST:Spec Tryz.prog 169 zbh:=by
 intro args h v h' e
 unfold zbh at e
 split at e
 ·rename_i j
  split at e
  ·rename_i er a hb
   cases e
   refine FnAt.c (FnAt.run (by kernel_rfl) (T:=⟨[],[]⟩) ⟨trivial,trivial⟩ Tryz.func169 K2a fun ho hh=>?_)
   have f1:=X5u hb
   unfold w169
   simp only[z49,Qs3,XtK,K1H,JS3,simprocAttr,CO.tmps,Opd.tmps,optT,f1,List.getElem?_cons_zero]
   exact Bt.dropB _ hh rfl
  ·cases e
 ·cases e
theorem YNB (i o:Nat):ZAx (.p i o) .np=some false:=oI rfl
def YN6:List AV->List AB->Option (AV×List AB)
 | [.p i 0],h=>match zZU h i with
   | some [.p j 0,_,_]=>match zZU h j with
    | some [.i .i64 e,.i .i64 _]=>some (.b (decide (¬e=0)),h)
    | _=>none
   | _=>none
 | _,_=>none
theorem Qlv:Spec Tryz.prog 201 YN6:=by
 intro args h v h' e
 unfold YN6 at e
 split at e
 ·rename_i i
  split at e
  ·rename_i j s p hb
   split at e
   ·rename_i er a hc
    cases e
    refine FnAt.c (FnAt.run (by kernel_rfl) (T:=⟨[⟨169,zbh,fun _=>[]⟩],[]⟩) ⟨⟨ZST,trivial⟩,trivial⟩ Tryz.func201 Kfv fun ho hh=>?_)
    have f1:=X5u hb
    have f2:=X5u hc
    unfold w201
    simp only[z49,Qs3,XtK,K1H,JS3,simprocAttr,CO.tmps,Opd.tmps,optT,f1,f2,zbh,YNB,List.getElem?_cons_zero,List.getElem?_cons_succ]
    exact Bt.dropB _ hh rfl
   ·cases e
  ·cases e
 ·cases e
end
section
set_option maxRecDepth 100000
set_option maxHeartbeats 4000000
theorem zMI {h:List AB} {i:Nat} {fl:Bool} {cells:List AV} (hi:h[i]?=some (.blk fl true cells)) {o:Nat} {vs:List AV} (ho:o+vs.length<=cells.length) (hw:vs.all (wrOk fl)=true) (x:List AB):stV (h++x) (some vs.length) (.p i o) (.ag vs)=some (h.set i (.blk fl true (over cells o vs))++x):=by
 have hlt:=(List.getElem?_eq_some_iff.1 hi).1
 simp only[stV,if_true,stB]
 rw[List.getElem?_append_left hlt,hi]
 dsimp only
 rw[if_pos ⟨ho,hw⟩,List.set_append_left _ _ hlt]
theorem Q1e {h:List AB} (hh:HOk h) (id:Nat) {B:AB} (hB:∀q,B.ok q=true):HOk (h.set id B):=fun i C hC=>by
 rw[List.length_set]
 rw[List.getElem?_set]at hC
 split at hC
 ·split at hC
  ·cases hC
   exact hB _
  ·cases hC
 ·exact hh i C hC
theorem Bt.dropS {P:Program} {h:List AB} {j:Nat} {B:AB} {v a:AV} (L:List AB) (hh:HOk h) (hB:∀q,B.ok q=true) (e:v=a) (hok:v.ok (fun i=>decide (i<h.length))=true):Bt P h.length [v] (h.set j B++L) [a] (h.set j B):=by
 have:=Bt.drop (P:=P) (h:=h.set j B) (v:=v) (a:=a) L (Q1e hh j hB) e (by rw[List.length_set];exact hok)
 rwa [List.length_set]at this
noncomputable def qJg:List AV->List AB->Option (AV×List AB)
 | [.p j 0,.i .i64 e,.i .i64 at0],h=>match h[j]? with
   | some (.blk true true [.i .i64 er,.i .i64 _])=>some (.tu [],if er=0 then h.set j (.blk true true [.i .i64 e,.i .i64 at0]) else h)
   | _=>none
 | _,_=>none
theorem Zvp:Spec Tryz.prog 258 qJg:=by
 intro args h v h' e
 unfold qJg at e
 split at e
 ·rename_i j er at0
  split at e
  ·rename_i e0 a0 hj
   cases e
   have hb:zZU h j=some [.i .i64 e0,.i .i64 a0]:=by unfold zZU;rw[hj]
   have q:∀x,stV (h++x) (some 2) (.p j 0) (.ag [.i .i64 er,.i .i64 at0])=some (h.set j (.blk true true [.i .i64 er,.i .i64 at0])++x):=fun x=>zMI hj (o:=0) (vs:=[.i .i64 er,.i .i64 at0]) (Nat.le_refl 2) rfl x
   refine FnAt.c (FnAt.run (by kernel_rfl) (T:=⟨[],[]⟩) ⟨trivial,trivial⟩ Tryz.func258 qOH fun ho hh=>?_)
   have f1:=X5u hb
   unfold w258
   by_cases g:e0=0
   ·have g':=eq_true g
    simp only[z49,Qs3,XtK,K1H,JS3,simprocAttr,CO.tmps,Opd.tmps,optT,f1,g',List.getElem?_cons_zero,q]
    exact Bt.dropS [] hh (fun _=>rfl) rfl rfl
   ·have g':=eq_false g
    simp only[z49,Qs3,XtK,K1H,JS3,simprocAttr,CO.tmps,Opd.tmps,optT,f1,g',List.getElem?_cons_zero]
    exact Bt.drop _ hh rfl rfl
  ·cases e
 ·cases e
end
section
set_option maxRecDepth 100000
set_option maxHeartbeats 4000000
def rdr (h:List AB) (i:Nat):Option (Nat×AV×Int×Int×Int):=match h[i]? with
 | some (.blk false _ [.p j 0,s,.i .i64 p])=>match zZU h j with
  | some [.i .i64 e,.i .i64 a]=>some (j,s,p,e,a)
  | _=>none
 | _=>none
theorem ZTJ {h:List AB} {i j:Nat} {s:AV} {p e a:Int} (q:rdr h i=some (j,s,p,e,a)):(∃m,h[i]?=some (.blk false m [.p j 0,s,.i .i64 p]))/\zZU h j=some [.i .i64 e,.i .i64 a]:=by
 unfold rdr at q
 split at q
 ·rename_i hb
  split at q
  ·rename_i hc
   simp only[Option.some.injEq,Prod.mk.injEq]at q
   obtain ⟨rfl,rfl,rfl,rfl,rfl⟩:=q
   exact ⟨⟨_,hb⟩,hc⟩
  ·cases q
 ·cases q
theorem Zyn {β:Type} {h:List AB} {i:Nat} {f:Nat×AV×Int×Int×Int->Option β} {b:β} (q:(rdr h i).bind f=some b):∃j s p e a,(∃m,h[i]?=some (.blk false m [.p j 0,s,.i .i64 p]))/\zZU h i=some [.p j 0,s,.i .i64 p]/\zZU h j=some [.i .i64 e,.i .i64 a]/\f (j,s,p,e,a)=some b:=by
 obtain ⟨⟨j,s,p,e,a⟩,h1,h2⟩:=oQ.1 q
 obtain ⟨⟨m,hm⟩,hc⟩:=ZTJ h1
 exact ⟨j,s,p,e,a,⟨m,hm⟩,by unfold zZU;rw[hm],hc,h2⟩
theorem qC8 {h:List AB} (hh:HOk h) {i j:Nat} {s:AV} {p:Int} {m:Bool} (q:h[i]?=some (.blk false m [.p j 0,s,.i .i64 p])):s.ok (fun k=>decide (k<h.length))=true:=by
 have:=hh i _ q
 simp only[AB.ok,ZiP,Bool.and_eq_true]at this
 exact this.2.1
def QCH:List AV->List AB->Option (AV×List AB)
 | [.p i 0],h=>(rdr h i).bind fun x=>some (.i .i64 (if x.2.2.2.1=0 then x.2.2.1 else 0),h)
 | _,_=>none
theorem KbD:Spec Tryz.prog 268 QCH:=by
 intro args h v h' e
 unfold QCH at e
 split at e
 ·rename_i i
  obtain ⟨j,s,p,er,a,⟨m,hi⟩,hb,hc,e⟩:=Zyn e
  cases e
  refine FnAt.c (FnAt.run (by kernel_rfl) (T:=⟨[⟨201,YN6,fun _=>[]⟩],[]⟩) ⟨⟨Qlv,trivial⟩,trivial⟩ Tryz.func268 J8m fun ho hh=>?_)
  have f1:=X5u hb
  have f2:=X5u hc
  unfold w268
  by_cases g:er=0
  ·have g':=eq_true g
   simp only[z49,Qs3,XtK,K1H,JS3,simprocAttr,CO.tmps,Opd.tmps,optT,f1,f2,g',YN6,YNB,List.getElem?_cons_zero,List.getElem?_cons_succ]
   exact Bt.drop _ hh rfl rfl
  ·have g':=eq_false g
   simp only[z49,Qs3,XtK,K1H,JS3,simprocAttr,CO.tmps,Opd.tmps,optT,f1,f2,g',YN6,YNB,List.getElem?_cons_zero,List.getElem?_cons_succ]
   exact Bt.drop _ hh rfl rfl
 ·cases e
noncomputable def ZTf:List AV->List AB->Option (AV×List AB)
 | [.p i 0],h=>(rdr h i).bind fun x=>(getS X0d h x.2.1).bind fun bs=>if 0<=x.2.2.1/\x.2.2.1<=bs.length then some (.i .i64 (YnR bs ⟨x.2.2.1.toNat,x.2.2.2.1,x.2.2.2.2⟩),h) else none
 | _,_=>none
theorem qz4:Spec Tryz.prog 204 ZTf:=by
 intro args h v h' e
 unfold ZTf at e
 split at e
 ·rename_i i
  obtain ⟨j,s,p,er,a,⟨m,hi⟩,hb,hc,e⟩:=Zyn e
  dsimp only at e
  obtain ⟨bs,hs,e⟩:=Qk0 e
  split at e
  ·rename_i hp
   cases e
   obtain ⟨n,rfl⟩:=Int.eq_ofNat_of_zero_le hp.1
   refine FnAt.c (FnAt.run (by kernel_rfl) (T:=⟨[⟨201,YN6,fun _=>[]⟩],[]⟩) ⟨⟨Qlv,trivial⟩,trivial⟩ Tryz.func204 q4B fun ho hh=>?_)
   have f1:=X5u hb
   have f2:=X5u hc
   have f3:=hs.fx (qC8 hh hi) (sz:=1) rfl
   have hm:=hs.2
   unfold w204
   by_cases g:er=0
   ·have g':=eq_true g
    have e1:IntKind.i64.wrap ((bs.length:Int)-(n:Int))=(bs.length:Int)-n:=Q7p (by unfold maxLen at hm;unfold In64;omega)
    have hr:YnR bs ⟨n,er,a⟩=(bs.length:Int)-n:=by unfold YnR;rw[if_pos g]
    simp only[z49,Qs3,XtK,K1H,JS3,simprocAttr,CO.tmps,Opd.tmps,optT,f1,f2,g',f3,YN6,YNB,e1,List.getElem?_cons_zero,List.getElem?_cons_succ]
    exact Bt.drop _ hh (congrArg (AV.i .i64) hr.symm) rfl
   ·have g':=eq_false g
    have hr:YnR bs ⟨n,er,a⟩=0:=by unfold YnR;rw[if_neg g]
    simp only[z49,Qs3,XtK,K1H,JS3,simprocAttr,CO.tmps,Opd.tmps,optT,f1,f2,g',f3,YN6,YNB,List.getElem?_cons_zero,List.getElem?_cons_succ]
    exact Bt.drop _ hh (congrArg (AV.i .i64) hr.symm) rfl
  ·cases e
 ·cases e
end
end Go.Proofs.YtekeoichmdiiiaaGreat
