/- Part 18 of what the laws' proofs rest on. No condition. -/
import Derived.Test.YtbcpcjofkfgjoaaPj17
set_option linter.all false
section
namespace Go.Proofs.Ytbcpcjofkfgjoaa
set_option maxRecDepth 100000
set_option maxHeartbeats 4000000
def YLB : List AV → List AB → Option (AV × List AB)
 | [.s l, .i .u8 n], h => some (.i .i64 (bixV l n), h)
 | _, _ => none
theorem YXt : Spec Try.prog 100 YLB := by
 intro args h v h' e
 unfold YLB at e
 split at e
 ·rename_i l n
  cases e
  refine FnAt.c (FnAt.run (by kernel_rfl) (T := ⟨[], []⟩) ⟨trivial, trivial⟩ Try.func100 Xjs fun ho hh => ?_)
  unfold w100
  simp only [KXL, JuQ, QbA, KI8, qi4, simprocAttr, CO.tmps, Opd.tmps, optT, Nat.reducePow, Nat.reduceDiv, Nat.reduceMod, Xvg]
  exact Bt.drop _ hh rfl rfl
 ·cases e
theorem zEe : Spec Try.prog 94 YLB := by
 intro args h v h' e
 unfold YLB at e
 split at e
 ·rename_i l n
  cases e
  refine FnAt.c (FnAt.run (by kernel_rfl) (T := ⟨[⟨100, YLB, fun _ => []⟩], []⟩) ⟨⟨YXt, trivial⟩, trivial⟩ Try.func94 sw94 fun ho hh => ?_)
  unfold w94
  simp only [KXL, JuQ, QbA, KI8, qi4, simprocAttr, CO.tmps, Opd.tmps, optT, Nat.reducePow, Nat.reduceDiv, Nat.reduceMod, YLB]
  exact Bt.drop _ hh rfl rfl
 ·cases e
def ZWY : List AV → List AB → Option (AV × List AB)
 | [.s l, .i .i32 c], h => if 0 ≤ c ∧ c < 128 then some (.i .i64 (bixV l c), h) else none
 | _, _ => none
theorem JV4 {x : Int} (h1 : 0 ≤ x) (h2 : x ≤ 255) : IntKind.u8.wrap x = x := by
 simp [IntKind.wrap, IntKind.bits, IntKind.signed]
 omega
theorem JRx : Spec Try.prog 89 ZWY := by
 intro args h v h' e
 unfold ZWY at e
 split at e
 ·rename_i l c
  split at e
  ·rename_i hc
   cases e
   refine FnAt.c (FnAt.run (by kernel_rfl) (T := ⟨[⟨94, YLB, fun _ => []⟩], []⟩) ⟨⟨zEe, trivial⟩, trivial⟩ Try.func89 sw89 fun ho hh => ?_)
   unfold w89
   have c1 : (0 ≤ c) = True := eq_true hc.1
   have c2 : (c < 128) = True := eq_true hc.2
   have w1 : IntKind.u8.wrap c = c := JV4 hc.1 (by omega)
   simp only [KXL, JuQ, QbA, KI8, qi4, simprocAttr, CO.tmps, Opd.tmps, optT, Nat.reducePow, Nat.reduceDiv, Nat.reduceMod, YLB, c1, c2, w1, QNf, Option.map_some, decide_true, decide_false, ne_eq, not_false_eq_true, not_true_eq_false, false_implies, forall_const, and_true, true_and]
   exact Bt.drop _ hh rfl rfl
  ·cases e
 ·cases e
def hexS : List UInt8 := [48, 49, 50, 51, 52, 53, 54, 55, 56, 57, 97, 98, 99, 100, 101, 102]
theorem J1g : ∀ n : _root_.Fin 128, hexP (n.val : Int) → bixV hexS (n.val : Int) = (hexD (UInt8.ofNat n.val) : Int) := by decide +kernel
theorem KZe {b : UInt8} (h : hexP (b.toNat : Int)) : bixV hexS (b.toNat : Int) = (hexD b : Int) := by
 have hb : b.toNat < 128 := by unfold hexP at h; omega
 have := J1g ⟨b.toNat, hb⟩ h
 rw [UInt8.ofNat_toNat] at this
 exact this
theorem JKG {d : Nat} (h : d < 16) : binV .shl (.i .u8 (d : Int)) (.i .u64 4) = some (.i .u8 ((d * 16 : Nat) : Int)) := by
 have e : binV .shl (.i .u8 (d : Int)) (.i .u64 4) = some (.i .u8 (IntKind.u8.wrap ((d : Int) * 16))) := rfl
 rw [e, JV4 (by omega) (by omega)]
 rfl
theorem QTS : ∀ d e : _root_.Fin 16, IntKind.u8.wrap (BitVec.ofInt IntKind.u8.bits ((d.val * 16 : Nat) : Int) ||| BitVec.ofInt IntKind.u8.bits (e.val : Int)).toNat = ((d.val * 16 + e.val : Nat) : Int) := by decide +kernel
theorem YOH {d e : Nat} (h : d < 16) (h2 : e < 16) : binV .or (.i .u8 ((d * 16 : Nat) : Int)) (.i .u8 (e : Int)) = some (.i .u8 ((d * 16 + e : Nat) : Int)) := by
 have e1 : binV .or (.i .u8 ((d * 16 : Nat) : Int)) (.i .u8 (e : Int)) = some (.i .u8 (IntKind.u8.wrap (BitVec.ofInt IntKind.u8.bits ((d * 16 : Nat) : Int) ||| BitVec.ofInt IntKind.u8.bits (e : Int)).toNat)) := by simp [binV, binI]
 rw [e1, QTS ⟨d, h⟩ ⟨e, h2⟩]
theorem zoX {fr : List AV} {h : List AB} {P : Program} {p n m : Nat} {sz sz' : Option Nat} {a : AV} {h' : List AB} : (∃ v, resV fr h [RC.cell n sz, RC.cell m sz'] = some v ∧ Bt P p [v] h [a] h') = FinO P p ((ldV h sz (pl fr n)).bind fun x => (ldV h sz' (pl fr m)).map fun y => .tu [x, y]) h a h' := by
 have e : resV fr h [RC.cell n sz, RC.cell m sz'] = (ldV h sz (pl fr n)).bind fun x => (ldV h sz' (pl fr m)).map fun y => .tu [x, y] := by
  simp only [resV, qUQ, zaK, Q8c, Option.bind_some]
  cases ldV h sz (pl fr n) with
  | none => rfl
  | some x =>
   cases ldV h sz' (pl fr m) <;> rfl
 rw [e]
 rfl
theorem JuD {h : List AB} (hz : h.map AB.freeze = h) {s : List UInt8} (hs : s.length ≤ 1000000) : FnAt Try.prog 76 [.s s] h (idV s) h := by
 refine FnAt.run (by kernel_rfl) (T := ⟨[⟨88, Jwd, fun _ => []⟩, ⟨87, Zf9, fun _ => []⟩, ⟨71, Jks (Zjb, 64), fun _ => []⟩, ⟨89, ZWY, fun _ => []⟩], []⟩) ⟨⟨qYZ, zs3, XcD _, JRx, trivial⟩, trivial⟩ Try.func76 sw76 fun ho hh => ?_
 unfold w76 idV idC
 have hd : ∀ H, Jwd [.i .i64 64] H = some (.p (H.length + 1) 0, H ++ digB H.length 64) := fun _ => rfl
 have hpre : ∀ j H, preV [115, 104, 97, 50, 53, 54, 58] j H = (.p (H.length + 2) 0, H ++ preB H.length Zjb j) := fun _ _ => rfl
 have hr : ∀ A B, repX (h ++ [A, B, .blk true true [.i .i64 64], .blk false true [.f (.func 92) [] [.p (h.length + 2) 0], .b false], .blk true true [.s [115, 104, 97, 50, 53, 54, 58]], .blk false true [.p (h.length + 3) 0], .blk false true [.f (.func 91) [] [.p (h.length + 4) 0, .p (h.length + 5) 0], .b false]]) (h.length + 6) ([115, 104, 97, 50, 53, 54, 58], 64) = True := fun A B =>
  eq_true ⟨by decide, h.length + 4, h.length + 5, h.length + 3, KcN _ _ 6 _ _ _ rfl, KcN _ _ 4 _ _ _ rfl, KcN _ _ 5 _ _ _ rfl, by decide, h.length + 2, KcN _ _ 3 _ _ _ rfl, KcN _ _ 2 _ _ _ rfl⟩
 have hs' := eq_true hs
 cases hf : idF s with
 | some p =>
  have hq : runB zBp Y8W s 0 ([115, 104, 97, 50, 53, 54, 58], 64) = some p := hf
  rw [if_neg (by simp)]
  have qe : JJx [CK.i, CK.i] [.i .i64 8, .i .i64 (p : Int)] [.i .i64 0, .i .i64 0] = some false := by
   simp [JJx, Yng]
  simp only [KXL, JuQ, QbA, KI8, qi4, simprocAttr, CO.tmps, Opd.tmps, optT, Nat.reducePow, Nat.reduceDiv, Nat.reduceMod, hd, hpre, digB, preB, Zjb, Zf9, Jks, hr, hs', hq, fltA, qe, K6Y hh, ZbP hz, qyN hz, KN7 hz, zoX, decide_true, decide_false, ne_eq, not_false_eq_true, not_true_eq_false, false_implies, forall_const, and_true, true_and]
  exact Bt.drop _ hh rfl rfl
 | none =>
  have hq : runB zBp Y8W s 0 ([115, 104, 97, 50, 53, 54, 58], 64) = none := hf
  have qe : JJx [CK.i, CK.i] [.i .i64 0, .i .i64 0] [.i .i64 0, .i .i64 0] = some true := rfl
  rw [if_pos rfl]
  obtain ⟨hlen, hhex⟩ := QE4 hf
  simp only [KXL, JuQ, QbA, KI8, qi4, simprocAttr, CO.tmps, Opd.tmps, optT, Nat.reducePow, Nat.reduceDiv, Nat.reduceMod, hd, hpre, digB, preB, Zjb, Zf9, Jks, hr, hs', hq, fltA, qe, K6Y hh, ZbP hz, qyN hz, KN7 hz, zoX, decide_true, decide_false, ne_eq, not_false_eq_true, not_true_eq_false, false_implies, forall_const, and_true, true_and]
  refine Qxr (S := Nat) (fun k => 32 - k) (fun k => [.s s] ++ tp 1 ++ [.p (h.length + 0) 0, .p (h.length + 1) 0] ++ tp 12 ++ [.i .i64 (k : Int)] ++ tp 28) (fun k => h ++ [.blk true true (ZaU (idBs s) k), .blk true true [.i .i64 0, .i .i64 0]]) (fun k => k ≤ 32) 0 (Nat.zero_le _) ?_ fun k hk => ?_
  ·show Bt _ _ _ _ ([.s s] ++ tp 1 ++ [.p (h.length + 0) 0, .p (h.length + 1) 0] ++ tp 12 ++ [.i .i64 0] ++ tp 28) (h ++ [.blk true true [.i .u8 0, .i .u8 0, .i .u8 0, .i .u8 0, .i .u8 0, .i .u8 0, .i .u8 0, .i .u8 0, .i .u8 0, .i .u8 0, .i .u8 0, .i .u8 0, .i .u8 0, .i .u8 0, .i .u8 0, .i .u8 0, .i .u8 0, .i .u8 0, .i .u8 0, .i .u8 0, .i .u8 0, .i .u8 0, .i .u8 0, .i .u8 0, .i .u8 0, .i .u8 0, .i .u8 0, .i .u8 0, .i .u8 0, .i .u8 0, .i .u8 0, .i .u8 0], .blk true true [.i .i64 0, .i .i64 0]])
   exact Bt.sel [0, 1] hh (by decide) (by simp only [KOx, FrSel, BlkSel, AV.ren, renL, AV.ok, okL, Option.some.injEq, exists_eq_left', List.length_cons, List.length_nil, Nat.reduceAdd, Nat.reduceLT, reduceCtorEq, implies_true, exists_eq']) (by simp only [tp_0, tp_s, List.cons_append, List.nil_append, KOx, FrSel, BlkSel, AV.ren, renL, AV.ok, okL, Option.some.injEq, exists_eq_left', List.length_cons, List.length_nil, Nat.reduceAdd, Nat.reduceLT, reduceCtorEq, implies_true, exists_eq'])
  by_cases g5 : k < 32
  ·have g5' : ((k : Int) < 32) = True := eq_true (by omega)
   have w3 : IntKind.i64.wrap ((k : Int) + 1) = ((k + 1 : Nat) : Int) := YBD (by unfold In64; omega)
   have w4 : IntKind.i64.wrap (2 * (k : Int)) = ((2 * k : Nat) : Int) := by rw [YBD (by unfold In64; omega)]; omega
   have w5 : IntKind.i64.wrap (7 + ((2 * k : Nat) : Int)) = ((7 + 2 * k : Nat) : Int) := by rw [YBD (by unfold In64; omega)]; omega
   have w6 : IntKind.i64.wrap (((7 + 2 * k : Nat) : Int) + 2) = ((7 + (2 * k + 2) : Nat) : Int) := by rw [YBD (by unfold In64; omega)]; omega
   have bm : binV .mul (.i .i64 2) (.i .i64 (k : Int)) = some (.i .i64 (IntKind.i64.wrap (2 * (k : Int)))) := rfl
   have hsl := ZBA (l := s) (n := 7 + 2 * k) (m := 7 + (2 * k + 2)) .i64 .i64 (by omega) (by omega)
   have hL := QIV s
   have hI := Jtx s g5
   obtain ⟨a, ha⟩ : ∃ a, s.getD (7 + 2 * k) 0 = a := ⟨_, rfl⟩
   obtain ⟨b, hb⟩ : ∃ b, s.getD (8 + 2 * k) 0 = b := ⟨_, rfl⟩
   have xa : hexP (a.toNat : Int) := by rw [← ha]; exact hhex (2 * k) (by omega)
   have xb : hexP (b.toNat : Int) := by rw [← hb, show 8 + 2 * k = 7 + (2 * k + 1) from by omega]; exact hhex (2 * k + 1) (by omega)
   rw [ha, hb] at hI
   have hab : (s.take (7 + (2 * k + 2))).drop (7 + 2 * k) = [a, b] := by
    have e1 : s[7 + 2 * k]'(by omega) = a := by rw [← ha, List.getD_eq_getElem?_getD, List.getElem?_eq_getElem (by omega)]; rfl
    have e2 : s[7 + 2 * k + 1]'(by omega) = b := by rw [← hb, List.getD_eq_getElem?_getD, show 8 + 2 * k = 7 + 2 * k + 1 from by omega, List.getElem?_eq_getElem (by omega)]; rfl
    rw [List.drop_take, List.drop_eq_getElem_cons (by omega), List.drop_eq_getElem_cons (by omega), e1, e2, show 7 + (2 * k + 2) - (7 + 2 * k) = 2 from by omega]
    rfl
   rw [hab] at hsl
   rw [KaH _ g5]
   simp only [QbA, KI8, qi4, simprocAttr, CO.tmps, Opd.tmps, optT, Nat.reducePow, Nat.reduceDiv, Nat.reduceMod, g5', bm, w3, w4, w5, w6, hsl, qjR, Yq6, Option.map_some, decide_true, decide_false, ne_eq, not_false_eq_true, not_true_eq_false, false_implies, forall_const, and_true, true_and]
   refine Qxr (S := Nat × Nat) (fun σ => 2 - σ.1) (fun σ => [.s s] ++ tp 1 ++ [.p (h.length + 0) 0, .p (h.length + 1) 0, .i .i64 (k : Int)] ++ tp 11 ++ [.i .i64 (k : Int)] ++ tp 11 ++ [.p (h.length + 2) 0] ++ tp 16) (fun σ => h ++ [.blk true true (Z0e (idBs s) k σ.2), .blk true true [.i .i64 0, .i .i64 0], itr [a, b] σ.1]) (fun σ => (σ.1 = 0 ∧ σ.2 = 0) ∨ (σ.1 = 1 ∧ σ.2 = hexD a) ∨ (σ.1 = 2 ∧ σ.2 = hexD a * 16 + hexD b)) (0, 0) (.inl ⟨rfl, rfl⟩) (Bt.wk (by simp only [QbA, qi4, simprocAttr])) fun σ hσ => ?_
   obtain ⟨p, v⟩ := σ
   dsimp only at hσ ⊢
   have la := Qje xa
   have lb := Qje xb
   have hn : ∀ A B : AB, nxV (h ++ [A, B, itr [a, b] p]) (.p (h.length + 2) 0) = if p < 2 then some (.tu [.b true, .i .i64 (p : Int), .i .i32 ((Utf8.decode ⟨[a, b].toArray⟩ p).1 : Int)], h ++ [A, B, itr [a, b] (p + (Utf8.decode ⟨[a, b].toArray⟩ p).2)]) else some (.tu [.b false], h ++ [A, B, itr [a, b] p]) := fun A B => Zk2 [A, B, itr [a, b] p] 2 [a, b] p rfl
   by_cases p2 : p < 2
   ·obtain ⟨c, hc, xc, hv, hnx⟩ : ∃ c : UInt8, Utf8.decode ⟨[a, b].toArray⟩ p = (c.toNat, 1) ∧ hexP (c.toNat : Int) ∧ v < 16 ∧ ((p + 1 = 0 ∧ v * 16 + hexD c = 0) ∨ (p + 1 = 1 ∧ v * 16 + hexD c = hexD a) ∨ (p + 1 = 2 ∧ v * 16 + hexD c = hexD a * 16 + hexD b)) := by
     rcases hσ with ⟨rfl, rfl⟩ | ⟨rfl, rfl⟩ | ⟨rfl, rfl⟩
     ·exact ⟨a, JDq (l := [a, b]) (pos := 0) (by simp) (by show a.toNat < 128; unfold hexP at xa; omega), xa, by omega, .inr (.inl ⟨rfl, by omega⟩)⟩
     ·exact ⟨b, JDq (l := [a, b]) (pos := 1) (by simp) (by show b.toNat < 128; unfold hexP at xb; omega), xb, la, .inr (.inr ⟨rfl, rfl⟩)⟩
     ·omega
    have lc := Qje xc
    have c128 : ((0 : Int) ≤ (c.toNat : Int) ∧ (c.toNat : Int) < 128) = True := eq_true (by unfold hexP at xc; omega)
    have hbx : bixV [48, 49, 50, 51, 52, 53, 54, 55, 56, 57, 97, 98, 99, 100, 101, 102] (c.toNat : Int) = (hexD c : Int) := KZe xc
    have w8 : IntKind.u8.wrap (hexD c : Int) = (hexD c : Int) := JV4 (by omega) (by omega)
    have f1 := JKG hv
    have f2 := YOH hv lc
    have f3 := XPL (v := v) (idBs s) g5 hL
    have f4 := Z1f (v := v) (v' := v * 16 + hexD c) (idBs s) g5 hL
    have f5 := K0w (v := v) (idBs s) g5 hL
    have f6 : (k + 1 ≤ 32) = True := eq_true (by omega)
    have p2' := eq_true p2
    simp only [QbA, KI8, qi4, simprocAttr, CO.tmps, Opd.tmps, optT, Nat.reducePow, Nat.reduceDiv, Nat.reduceMod, YaU, hn, p2', hc, zyA, qNP, g5, ZWY, c128, hbx, w8, QNf, f1, f2, f3, f4, f5, f6, Nat.mul_one, Nat.zero_add, Option.map_some, K6Y hh, ZbP hz, qyN hz, KN7 hz, decide_true, decide_false, ne_eq, not_false_eq_true, not_true_eq_false, false_implies, forall_const, and_true, true_and]
    exact ⟨(of_eq_true c128).2, rfl, rfl, (p + 1, v * 16 + hexD c), hnx, by dsimp only; omega, Bt.wk (by simp only [QbA, qi4, simprocAttr])⟩
   ·have hv : v = ((idBs s).getD k 0).toNat := by
     have : v = hexD a * 16 + hexD b := by rcases hσ with ⟨q, _⟩ | ⟨q, _⟩ | ⟨_, q⟩ <;> omega
     rw [hI, this, UInt8.toNat_ofNat', Nat.mod_eq_of_lt (by omega)]
    have p2' := eq_false p2
    rw [hv, zwq _ g5 hL]
    simp only [QbA, KI8, qi4, simprocAttr, CO.tmps, Opd.tmps, optT, Nat.reducePow, Nat.reduceDiv, Nat.reduceMod, YaU, hn, p2', w3, decide_true, decide_false, ne_eq, not_false_eq_true, not_true_eq_false, false_implies, forall_const, and_true, true_and]
    refine ⟨k + 1, g5, by dsimp only; omega, ?_⟩
    exact Bt.sel [0, 1] hh (by decide) (by simp only [KOx, FrSel, BlkSel, AV.ren, renL, AV.ok, okL, Option.some.injEq, exists_eq_left', List.length_cons, List.length_nil, Nat.reduceAdd, Nat.reduceLT, reduceCtorEq, implies_true, exists_eq']) (by simp only [tp_0, tp_s, List.cons_append, List.nil_append, KOx, FrSel, BlkSel, AV.ren, renL, AV.ok, okL, Option.some.injEq, exists_eq_left', List.length_cons, List.length_nil, Nat.reduceAdd, Nat.reduceLT, reduceCtorEq, implies_true, exists_eq'])
  ·have g5' : ((k : Int) < 32) = False := eq_false (by omega)
   obtain rfl : k = 32 := by omega
   rw [KcD _ (QIV s)]
   obtain ⟨b1, b2, b3, b4, b5⟩ := Jdz (QIV s)
   have b6 : ((32 : Nat) ≤ 32) = True := eq_true (Nat.le_refl _)
   simp only [QbA, KI8, qi4, simprocAttr, CO.tmps, Opd.tmps, optT, Nat.reducePow, Nat.reduceDiv, Nat.reduceMod, g5', b1, b2, b3, b4, b5, b6, Qj1, K6Y hh, ZbP hz, qyN hz, KN7 hz, zoX, decide_true, decide_false, ne_eq, not_false_eq_true, not_true_eq_false, false_implies, forall_const, and_true, true_and]
   exact Bt.drop _ hh rfl (by simp [AV.ok, okL, b4])
theorem KxU : Spec Try.prog 76 T_ID := by
 intro args h v h' e
 unfold T_ID at e
 split at e
 ·split at e
  ·rename_i hs
   cases e
   exact FnAt.c (FnAt.frz0 fun hz => JuD hz hs)
  ·cases e
 ·cases e
end Go.Proofs.Ytbcpcjofkfgjoaa
end
section
namespace Go.Proofs.Ytbcpcjofkfgjoaa
set_option maxRecDepth 100000
set_option maxHeartbeats 4000000
def Z88 (s : List UInt8) : Prop := ¬ (128 : Int) < (s.length : Int) ∧ runB ZJo XV3 s 0 ⟨7, .w⟩ = none
def QQ2 (s : List UInt8) : Prop := ¬ (64 : Int) < (s.length : Int) ∧ runB JL1 Yak s 0 .first = none
instance (s : List UInt8) : Decidable (Z88 s) := inferInstanceAs (Decidable (_ ∧ _))
instance (s : List UInt8) : Decidable (QQ2 s) := inferInstanceAs (Decidable (_ ∧ _))
theorem qNv (s : List UInt8) : ∃ e p : Int, Z8Z s = .ag [.i .i64 e, .i .i64 p] ∧ (Z88 s → e = 0 ∧ p = 0) ∧ (¬ Z88 s → e ≠ 0) := by
 unfold Z8Z Z88
 by_cases g : (128 : Int) < (s.length : Int)
 ·rw [if_pos g]
  exact ⟨4, 128, rfl, fun z => absurd g z.1, fun _ => by decide⟩
 ·rw [if_neg g]
  cases hr : runB ZJo XV3 s 0 ⟨7, .w⟩ with
  | none => exact ⟨0, 0, rfl, fun _ => ⟨rfl, rfl⟩, fun z => absurd ⟨g, rfl⟩ z⟩
  | some p => exact ⟨7, p, rfl, fun z => (by cases z.2), fun _ => by decide⟩
theorem Y3B (s : List UInt8) : ∃ e p : Int, tagV s = .ag [.i .i64 e, .i .i64 p] ∧ (QQ2 s → e = 0 ∧ p = 0) ∧ (¬ QQ2 s → e ≠ 0) := by
 unfold tagV QQ2
 by_cases g : (64 : Int) < (s.length : Int)
 ·rw [if_pos g]
  exact ⟨4, 64, rfl, fun z => absurd g z.1, fun _ => by decide⟩
 ·rw [if_neg g]
  cases hr : runB JL1 Yak s 0 .first with
  | none => exact ⟨0, 0, rfl, fun _ => ⟨rfl, rfl⟩, fun z => absurd ⟨g, rfl⟩ z⟩
  | some p => exact ⟨7, p, rfl, fun z => (by cases z.2), fun _ => by decide⟩
theorem YHV (s : List UInt8) : ∃ e p : Int, idV s = .tu [.ag (idC s), .ag [.i .i64 e, .i .i64 p]] ∧ (idF s = none → e = 0 ∧ p = 0) ∧ (¬ idF s = none → e ≠ 0) := by
 unfold idV
 cases hr : idF s with
 | none => exact ⟨0, 0, rfl, fun _ => ⟨rfl, rfl⟩, fun z => absurd rfl z⟩
 | some p => exact ⟨8, p, rfl, fun z => (by cases z), fun _ => by decide⟩
theorem Jqs (s : List UInt8) : (idC s).length = 32 := by
 unfold idC
 split
 ·rw [List.length_map, QIV]
 ·rw [List.length_replicate]
def errR (s : List UInt8) : Int := if Z88 s then 0 else 7
def errT (s : List UInt8) : Int := if QQ2 s then 0 else 7
def errI (s : List UInt8) : Int := if idF s = none then 0 else 8
def errN (s : List UInt8) : Int := if s = [] then 0 else 7
def repE (k : Int) (s : List UInt8) : Int := if k = 3 then errN s else errR s
def aftK (k : Int) (s : List UInt8) : Int := if k = 1 then errT s else if k = 2 then errI s else errR s
def aftE (k : Int) (s : List UInt8) : Int := if s = [] then 0 else aftK k s
def chkE (k : Int) (r a : List UInt8) : Int := if k < 1 ∨ 3 < k then 5 else if repE k r = 0 then aftE k a else repE k r
def QCM : List AV → List AB → Option (AV × List AB)
 | [.ag [.i .i64 k, .s r, .s _]], h => if r.length ≤ 1000000 then some (.i .i64 (repE k r), h) else none
 | _, _ => none
def JqV : List AV → List AB → Option (AV × List AB)
 | [.ag [.i .i64 k, .s r, .s a]], h => if r.length ≤ 1000000 ∧ a.length ≤ 1000000 then some (.i .i64 (chkE k r a), h) else none
 | _, _ => none
def YNH : List UInt8 := [116, 97, 103, 115]
def ZJf : List UInt8 := [109, 97, 110, 105, 102, 101, 115, 116, 115]
def Kkh : List UInt8 := [114, 101, 112, 111, 115]
def XQH (k : Int) : List UInt8 := if k = 1 then YNH else if k = 2 then ZJf else Kkh
def Y17 : List AV → List AB → Option (AV × List AB)
 | [], h => some (.sl (h.length + 0) 0 3 3 none, h ++ [.blk true true [.s YNH, .s ZJf, .s Kkh]])
 | _, _ => none
end Go.Proofs.Ytbcpcjofkfgjoaa
end
section
namespace Go.Proofs.Ytbcpcjofkfgjoaa
set_option maxRecDepth 100000
set_option maxHeartbeats 4000000
def Ygt (k : Int) (r a : List UInt8) : List UInt8 := XQH k ++ [58] ++ r ++ [58] ++ a
def txtV (k : Int) (r a : List UInt8) : AV := .tu [.s (if chkE k r a = 0 then Ygt k r a else []), .i .i64 (chkE k r a)]
def Kzg : List AV → List AB → Option (AV × List AB)
 | [.ag [.i .i64 k, .s r, .s a]], h => if r.length ≤ 1000000 ∧ a.length ≤ 1000000 then some (txtV k r a, h) else none
 | _, _ => none
theorem tn_0 : Int.toNat 0 = 0 := _root_.id rfl
theorem tn_1 : Int.toNat 1 = 1 := _root_.id rfl
theorem tn_2 : Int.toNat 2 = 2 := _root_.id rfl
theorem Q74 {k : Int} {r a : List UInt8} (h : chkE k r a = 0) : k = 1 ∨ k = 2 ∨ k = 3 := by
 unfold chkE at h
 by_cases hk : k < 1 ∨ 3 < k
 ·rw [if_pos hk] at h; cases h
 ·omega
def ZKp : List UInt8 → Nat → Option Nat
 | [], _ => none
 | b :: l, i => if b = 58 then some i else ZKp l (i + 1)
def zWb (s : List UInt8) (from_ : Nat) : Option Nat := ZKp (s.drop from_) from_
theorem qG3 {s : List UInt8} {i : Nat} (h : i < s.length) : zWb s i = if s.getD i 0 = 58 then some i else zWb s (i + 1) := by
 unfold zWb
 rw [List.drop_eq_getElem_cons h, List.getD_eq_getElem?_getD, List.getElem?_eq_getElem h]
 rfl
theorem q30 {s : List UInt8} {i : Nat} (h : s.length ≤ i) : zWb s i = none := by
 unfold zWb
 rw [List.drop_eq_nil_of_le h]
 rfl
theorem qsK {s : List UInt8} {i p : Nat} (e : zWb s i = some p) : i ≤ p ∧ p < s.length ∧ s.getD p 0 = 58 := by
 by_cases h : i < s.length
 ·rw [qG3 h] at e
  by_cases hb : s.getD i 0 = 58
  ·rw [if_pos hb] at e
   cases e
   exact ⟨Nat.le_refl _, h, hb⟩
  ·rw [if_neg hb] at e
   have := qsK e
   exact ⟨by omega, this.2⟩
 ·rw [q30 (by omega)] at e
  cases e
termination_by s.length - i
end Go.Proofs.Ytbcpcjofkfgjoaa
end
section
namespace Go.Proofs.Ytbcpcjofkfgjoaa
set_option maxRecDepth 100000
set_option maxHeartbeats 4000000
def QF1 (w : List UInt8) : Int := if YNH = w then 1 else if ZJf = w then 2 else if Kkh = w then 3 else 0
structure Crd where
 k : Int
 r : List UInt8
 a : List UInt8
 e : Int
 p : Int
def badC (e p : Int) : Crd := ⟨0, [], [], e, p⟩
def JPB (s : List UInt8) (one : Nat) (k : Int) : Crd :=
 match zWb s (one + 1) with
 | none => badC 5 s.length
 | some two =>
  if repE k ((s.take two).drop (one + 1)) = 0 then
   (if aftE k (s.drop (two + 1)) = 0 then ⟨k, (s.take two).drop (one + 1), s.drop (two + 1), 0, 0⟩ else badC (aftE k (s.drop (two + 1))) (two + 1 : Nat))
  else badC (repE k ((s.take two).drop (one + 1))) (one + 1 : Nat)
def zfC (s : List UInt8) : Crd :=
 match zWb s 0 with
 | none => badC 5 0
 | some one => if QF1 (s.take one) = 0 then badC 5 0 else JPB s one (QF1 (s.take one))
def Crd.v (x : Crd) : AV := .tu [.ag [.i .i64 x.k, .s x.r, .s x.a], .ag [.i .i64 x.e, .i .i64 x.p]]
def zs6 : List AV → List AB → Option (AV × List AB)
 | [.s s], h => if s.length ≤ 1000000 then some ((zfC s).v, h) else none
 | _, _ => none
end Go.Proofs.Ytbcpcjofkfgjoaa
end
section
namespace Go.Proofs.Ytbcpcjofkfgjoaa
set_option maxRecDepth 100000
theorem XFa (s : ByteArray) (pos : Nat) : ∀ k, 1 ≤ k → k < (Utf8.decode s pos).2 → pos + k < s.size ∧ 128 ≤ (s.get! (pos + k)).toNat := by
 simp only [Utf8.decode]
 repeat' split
 all_goals intro k h1 h2
 all_goals simp only [Bool.and_eq_true, decide_eq_true_eq, beq_iff_eq] at *
 ·omega
 ·obtain rfl : k = 1 := by omega
  omega
 ·omega
 ·rcases (show k = 1 ∨ k = 2 by omega) with rfl | rfl <;> omega
 ·omega
 ·rcases (show k = 1 ∨ k = 2 ∨ k = 3 by omega) with rfl | rfl | rfl <;> omega
 ·omega
 ·omega
theorem getL (l : List UInt8) {i : Nat} (h : i < l.length) : (⟨l.toArray⟩ : ByteArray).get! i = l.getD i 0 := by
 show l.toArray[i]! = _
 rw [getElem!_pos l.toArray i (by simpa using h), List.getD_eq_getElem?_getD, List.getElem?_eq_getElem h]
 rfl
theorem zPF {s : List UInt8} {pos : Nat} : ∀ n, (∀ k, k < n → pos + k < s.length ∧ s.getD (pos + k) 0 ≠ 58) → zWb s pos = zWb s (pos + n)
 | 0, _ => rfl
 | n + 1, h => by
  rw [zPF n (fun k hk => h k (by omega)), qG3 (h n (Nat.lt_succ_self n)).1, if_neg (h n (Nat.lt_succ_self n)).2]
  rfl
theorem YuT {s : List UInt8} {pos : Nat} (h : pos < s.length) :
  (Utf8.decode ⟨s.toArray⟩ pos).2 ≠ 0 ∧ pos + (Utf8.decode ⟨s.toArray⟩ pos).2 ≤ s.length ∧
  ((Utf8.decode ⟨s.toArray⟩ pos).1 = 58 → (Utf8.decode ⟨s.toArray⟩ pos).2 = 1 ∧ s.getD pos 0 = 58) ∧
  ((Utf8.decode ⟨s.toArray⟩ pos).1 ≠ 58 → zWb s pos = zWb s (pos + (Utf8.decode ⟨s.toArray⟩ pos).2)) := by
 have hs : (⟨s.toArray⟩ : ByteArray).size = s.length := by simp [ByteArray.size]
 have hg : s.getD pos 0 = s[pos] := by rw [List.getD_eq_getElem?_getD, List.getElem?_eq_getElem h]; rfl
 by_cases ha : (s[pos]).toNat < 128
 ·rw [JDq h ha]
  refine ⟨Nat.one_ne_zero, h, fun e => ⟨rfl, ?_⟩, fun e => zPF 1 fun k hk => ?_⟩
  ·rw [hg]; exact UInt8.toNat_inj.1 e
  ·obtain rfl : k = 0 := by omega
   rw [Nat.add_zero, hg]
   exact ⟨h, fun z => e (by show (s[pos]).toNat = 58; rw [z]; rfl)⟩
 ·have hr := XFa ⟨s.toArray⟩ pos
  have hh := decode_high ⟨s.toArray⟩ pos (by rw [hs]; exact h) (by show 128 ≤ (s[pos]).toNat; omega)
  generalize Utf8.decode ⟨s.toArray⟩ pos = d at hr hh
  have hle : pos + d.2 ≤ s.length := by
   by_cases h1 : 1 < d.2
   ·have := (hr (d.2 - 1) (by omega) (by omega)).1
    rw [hs] at this
    omega
   ·omega
  refine ⟨by omega, hle, fun e => by omega, fun _ => zPF d.2 fun k hk => ⟨by omega, ?_⟩⟩
  by_cases k0 : k = 0
  ·subst k0
   rw [Nat.add_zero, hg]
   intro z
   rw [z] at ha
   exact ha (by decide)
  ·have := (hr k (by omega) hk).2
   rw [getL s (by omega)] at this
   intro z
   rw [z] at this
   exact absurd this (by decide)
end Go.Proofs.Ytbcpcjofkfgjoaa
end
section
namespace Go.Proofs.Ytbcpcjofkfgjoaa
set_option maxRecDepth 100000
set_option maxHeartbeats 4000000
def XpF : List AV → List AB → Option (AV × List AB)
 | [.f (.func g) [] []], h => some (.f (.func 69) [] [.p (h.length + 0) 0], h ++ [.blk false true [.f (.func g) [] []]])
 | _, _ => none
theorem ZTp : Spec Try.prog 55 XpF := by
 intro args h v h' e
 unfold XpF at e
 split at e
 ·rename_i g
  cases e
  refine FnAt.c (FnAt.run (by kernel_rfl) (T := ⟨[], []⟩) ⟨trivial, trivial⟩ Try.func55 sw55 fun ho hh => ?_)
  unfold w55
  simp only [KXL, JuQ, QbA, KI8, qi4, simprocAttr, CO.tmps, Opd.tmps, optT, Nat.reducePow, Nat.reduceDiv, Nat.reduceMod]
  exact Bt.wk1 (Wk.refl _)
 ·cases e
def namE (g : Nat) (s : List UInt8) : Option Int := if g = 56 then some (errR s) else if g = 57 then some (errT s) else none
def QdS : List AV → List AB → Option (AV × List AB)
 | [.s s, .p b 0], h => match ldV h none (.p b 0) with
  | some (.f (.func g) [] []) => if s.length ≤ 1000000 then (namE g s).map fun e => (.i .i64 e, h) else none
  | _ => none
 | _, _ => none
theorem eq00 {e p : Int} (h : e = 0 ∧ p = 0) : JJx [CK.i, CK.i] [.i .i64 e, .i .i64 p] [.i .i64 0, .i .i64 0] = some true := by
 rw [h.1, h.2]; rfl
theorem ne00 {e p : Int} (h : e ≠ 0) : JJx [CK.i, CK.i] [.i .i64 e, .i .i64 p] [.i .i64 0, .i .i64 0] = some false := by
 have : (e == 0) = false := by simp [h]
 simp only [JJx, Yng, if_true, Option.bind_some, Option.map_some, this, Bool.false_and]
theorem Ksc : Spec Try.prog 69 QdS := by
 intro args h v h' e
 unfold QdS at e
 split at e
 ·rename_i s b
  split at e
  ·rename_i g l1
   split at e
   ·rename_i hs
    have m1 : ldV (h ++ []) none (.p b 0) = some (.f (.func g) [] []) := by rw [List.append_nil]; exact l1
    have hs' := eq_true hs
    unfold namE at e
    refine FnAt.c (FnAt.run (by kernel_rfl) (T := ⟨[⟨56, zsI, fun _ => []⟩, ⟨57, YCE, fun _ => []⟩], []⟩) ⟨⟨KhV, KWz, trivial⟩, trivial⟩ Try.func69 sw69 fun ho hh => ?_)
    unfold w69
    by_cases g1 : g = 56
    ·subst g1
     rw [if_pos rfl] at e
     cases e
     obtain ⟨e, p, e1, e2, e3⟩ := qNv s
     unfold errR
     by_cases hg : Z88 s
     ·rw [if_pos hg]
      have q := eq00 (e2 hg)
      simp only [KXL, JuQ, QbA, KI8, qi4, simprocAttr, CO.tmps, Opd.tmps, optT, Nat.reducePow, Nat.reduceDiv, Nat.reduceMod, m1, zsI, hs', e1, q, decide_true, decide_false, ne_eq, not_false_eq_true, not_true_eq_false, false_implies, forall_const, and_true, true_and]
      exact Bt.drop _ hh rfl rfl
     ·rw [if_neg hg]
      have q := ne00 (p := p) (e3 hg)
      simp only [KXL, JuQ, QbA, KI8, qi4, simprocAttr, CO.tmps, Opd.tmps, optT, Nat.reducePow, Nat.reduceDiv, Nat.reduceMod, m1, zsI, hs', e1, q, decide_true, decide_false, ne_eq, not_false_eq_true, not_true_eq_false, false_implies, forall_const, and_true, true_and]
      exact Bt.drop _ hh rfl rfl
    rw [if_neg g1] at e
    by_cases g2 : g = 57
    ·subst g2
     rw [if_pos rfl] at e
     cases e
     obtain ⟨e, p, e1, e2, e3⟩ := Y3B s
     unfold errT
     by_cases hg : QQ2 s
     ·rw [if_pos hg]
      have q := eq00 (e2 hg)
      simp only [KXL, JuQ, QbA, KI8, qi4, simprocAttr, CO.tmps, Opd.tmps, optT, Nat.reducePow, Nat.reduceDiv, Nat.reduceMod, m1, YCE, hs', e1, q, decide_true, decide_false, ne_eq, not_false_eq_true, not_true_eq_false, false_implies, forall_const, and_true, true_and]
      exact Bt.drop _ hh rfl rfl
     ·rw [if_neg hg]
      have q := ne00 (p := p) (e3 hg)
      simp only [KXL, JuQ, QbA, KI8, qi4, simprocAttr, CO.tmps, Opd.tmps, optT, Nat.reducePow, Nat.reduceDiv, Nat.reduceMod, m1, YCE, hs', e1, q, decide_true, decide_false, ne_eq, not_false_eq_true, not_true_eq_false, false_implies, forall_const, and_true, true_and]
      exact Bt.drop _ hh rfl rfl
    ·rw [if_neg g2] at e
     cases e
   ·cases e
  ·cases e
 ·cases e
def zp0 : List AV → List AB → Option (AV × List AB)
 | [.s s], h => some (.i .i64 (errN s), h)
 | _, _ => none
theorem Z5t : Spec Try.prog 59 zp0 := by
 intro args h v h' e
 unfold zp0 at e
 split at e
 ·rename_i s
  cases e
  refine FnAt.c (FnAt.run (by kernel_rfl) (T := ⟨[], []⟩) ⟨trivial, trivial⟩ Try.func59 sw59 fun ho hh => ?_)
  unfold w59 errN
  by_cases hz : s = []
  ·rw [if_pos hz]
   simp only [KXL, JuQ, QbA, KI8, qi4, simprocAttr, CO.tmps, Opd.tmps, optT, Nat.reducePow, Nat.reduceDiv, Nat.reduceMod, KP7, eq_true hz, decide_true, decide_false, ne_eq, not_false_eq_true, not_true_eq_false, false_implies, forall_const, and_true, true_and]
   exact Bt.drop _ hh rfl rfl
  ·rw [if_neg hz]
   simp only [KXL, JuQ, QbA, KI8, qi4, simprocAttr, CO.tmps, Opd.tmps, optT, Nat.reducePow, Nat.reduceDiv, Nat.reduceMod, KP7, eq_false hz, decide_true, decide_false, ne_eq, not_false_eq_true, not_true_eq_false, false_implies, forall_const, and_true, true_and]
   exact Bt.drop _ hh rfl rfl
 ·cases e
def YAS : List AV → List AB → Option (AV × List AB)
 | [.s s], h => if s.length ≤ 1000000 then some (.i .i64 (errI s), h) else none
 | _, _ => none
theorem YW8 : Spec Try.prog 58 YAS := by
 intro args h v h' e
 unfold YAS at e
 split at e
 ·rename_i s
  split at e
  ·rename_i hs
   cases e
   refine FnAt.c (FnAt.run (by kernel_rfl) (T := ⟨[⟨76, T_ID, fun _ => []⟩], []⟩) ⟨⟨KxU, trivial⟩, trivial⟩ Try.func58 sw58 fun ho hh => ?_)
   unfold w58
   have hs' := eq_true hs
   obtain ⟨e, p, e1, e2, e3⟩ := YHV s
   have hc : (idC s).length = 32 := Jqs s
   have hov : over [.i .u8 0, .i .u8 0, .i .u8 0, .i .u8 0, .i .u8 0, .i .u8 0, .i .u8 0, .i .u8 0, .i .u8 0, .i .u8 0, .i .u8 0, .i .u8 0, .i .u8 0, .i .u8 0, .i .u8 0, .i .u8 0, .i .u8 0, .i .u8 0, .i .u8 0, .i .u8 0, .i .u8 0, .i .u8 0, .i .u8 0, .i .u8 0, .i .u8 0, .i .u8 0, .i .u8 0, .i .u8 0, .i .u8 0, .i .u8 0, .i .u8 0, .i .u8 0] 0 (idC s) = idC s := by
    simp only [over, List.take_zero, List.nil_append, Nat.zero_add]
    rw [List.drop_eq_nil_of_le (by rw [hc]; exact Nat.le_refl _), List.append_nil]
   have hall : (idC s).all (wrOk true) = true := by
    unfold idC
    split
    ·exact (Jdz (QIV s)).2.2.1
    ·rfl
   have h32 : ((32 : Nat) ≤ 32) = True := eq_true (Nat.le_refl _)
   unfold errI
   by_cases hg : idF s = none
   ·rw [if_pos hg]
    have q := eq00 (e2 hg)
    simp only [KXL, JuQ, QbA, KI8, qi4, simprocAttr, CO.tmps, Opd.tmps, optT, Nat.reducePow, Nat.reduceDiv, Nat.reduceMod, T_ID, hs', e1, q, hc, hov, hall, h32, decide_true, decide_false, ne_eq, not_false_eq_true, not_true_eq_false, false_implies, forall_const, and_true, true_and]
    exact Bt.drop _ hh rfl rfl
   ·rw [if_neg hg]
    have q := ne00 (p := p) (e3 hg)
    simp only [KXL, JuQ, QbA, KI8, qi4, simprocAttr, CO.tmps, Opd.tmps, optT, Nat.reducePow, Nat.reduceDiv, Nat.reduceMod, T_ID, hs', e1, q, hc, hov, hall, h32, decide_true, decide_false, ne_eq, not_false_eq_true, not_true_eq_false, false_implies, forall_const, and_true, true_and]
    exact Bt.drop _ hh rfl rfl
  ·cases e
 ·cases e
def nmdV (n : Nat) : AV := .f (.func 69) [] [.p n 0]
def qrD (n : Nat) : List AB := [.blk false true [.f (.func 56) [] []], .blk false true [.f (.func 57) [] []], .blk false true [.f (.func 56) [] []], .blk false true [.f (.func 56) [] []],
 .blk false true [.s YNH, nmdV (n + 0), nmdV (n + 1), .s ZJf, nmdV (n + 2), .f (.func 58) [] [], .s Kkh, .f (.func 59) [] [], nmdV (n + 3)]]
def Kqb : List AV → List AB → Option (AV × List AB)
 | [], h => some (.sl (h.length + 4) 0 3 3 none, h ++ qrD h.length)
 | _, _ => none
theorem qTR : Spec Try.prog 37 Kqb := by
 intro args h v h' e
 unfold Kqb at e
 split at e
 ·cases e
  refine FnAt.c (FnAt.run (by kernel_rfl) (T := ⟨[⟨55, XpF, fun _ => []⟩], []⟩) ⟨⟨ZTp, trivial⟩, trivial⟩ Try.func37 sw37 fun ho hh => ?_)
  unfold w37 qrD nmdV
  simp only [KXL, JuQ, QbA, KI8, qi4, simprocAttr, CO.tmps, Opd.tmps, optT, Nat.reducePow, Nat.reduceDiv, Nat.reduceMod, XpF, decide_true, decide_false, ne_eq, not_false_eq_true, not_true_eq_false, false_implies, forall_const, and_true, true_and]
  exact Bt.wk1 (Wk.refl _)
 ·cases e
end Go.Proofs.Ytbcpcjofkfgjoaa
end
