/- Part 19 of what the laws' proofs rest on. No condition. -/
import Derived.Test.YtbcpcjofkfgjoaaPi18
set_option linter.all false
section
namespace Go.Proofs.Ytbcpcjofkfgjoaa
set_option maxRecDepth 100000
set_option maxHeartbeats 4000000
def YLB : List AV → List AB → Option (AV × List AB)
 | [.s l, .i .u8 n], h => some (.i .i64 (bixV l n), h)
 | _, _ => none
theorem YXt : Spec Try.prog 100 YLB := by
 intro args h v h' e
 unfold YLB at e
 split at e
 ·rename_i l n
  cases e
  refine FnAt.c (FnAt.run (by kernel_rfl) (T := ⟨[], []⟩) ⟨trivial, trivial⟩ Try.func100 Xjs fun ho hh => ?_)
  unfold w100
  simp only [KXL, JuQ, QbA, KI8, qi4, simprocAttr, CO.tmps, Opd.tmps, optT, Nat.reducePow, Nat.reduceDiv, Nat.reduceMod, Xvg]
  exact Bt.drop _ hh rfl rfl
 ·cases e
theorem zEe : Spec Try.prog 94 YLB := by
 intro args h v h' e
 unfold YLB at e
 split at e
 ·rename_i l n
  cases e
  refine FnAt.c (FnAt.run (by kernel_rfl) (T := ⟨[⟨100, YLB, fun _ => []⟩], []⟩) ⟨⟨YXt, trivial⟩, trivial⟩ Try.func94 sw94 fun ho hh => ?_)
  unfold w94
  simp only [KXL, JuQ, QbA, KI8, qi4, simprocAttr, CO.tmps, Opd.tmps, optT, Nat.reducePow, Nat.reduceDiv, Nat.reduceMod, YLB]
  exact Bt.drop _ hh rfl rfl
 ·cases e
def ZWY : List AV → List AB → Option (AV × List AB)
 | [.s l, .i .i32 c], h => if 0 ≤ c ∧ c < 128 then some (.i .i64 (bixV l c), h) else none
 | _, _ => none
theorem JV4 {x : Int} (h1 : 0 ≤ x) (h2 : x ≤ 255) : IntKind.u8.wrap x = x := by
 simp [IntKind.wrap, IntKind.bits, IntKind.signed]
 omega
theorem JRx : Spec Try.prog 89 ZWY := by
 intro args h v h' e
 unfold ZWY at e
 split at e
 ·rename_i l c
  split at e
  ·rename_i hc
   cases e
   refine FnAt.c (FnAt.run (by kernel_rfl) (T := ⟨[⟨94, YLB, fun _ => []⟩], []⟩) ⟨⟨zEe, trivial⟩, trivial⟩ Try.func89 sw89 fun ho hh => ?_)
   unfold w89
   have c1 : (0 ≤ c) = True := eq_true hc.1
   have c2 : (c < 128) = True := eq_true hc.2
   have w1 : IntKind.u8.wrap c = c := JV4 hc.1 (by omega)
   simp only [KXL, JuQ, QbA, KI8, qi4, simprocAttr, CO.tmps, Opd.tmps, optT, Nat.reducePow, Nat.reduceDiv, Nat.reduceMod, YLB, c1, c2, w1, QNf, Option.map_some, decide_true, decide_false, ne_eq, not_false_eq_true, not_true_eq_false, false_implies, forall_const, and_true, true_and]
   exact Bt.drop _ hh rfl rfl
  ·cases e
 ·cases e
def hexS : List UInt8 := [48, 49, 50, 51, 52, 53, 54, 55, 56, 57, 97, 98, 99, 100, 101, 102]
theorem J1g : ∀ n : _root_.Fin 128, hexP (n.val : Int) → bixV hexS (n.val : Int) = (hexD (UInt8.ofNat n.val) : Int) := by decide +kernel
theorem KZe {b : UInt8} (h : hexP (b.toNat : Int)) : bixV hexS (b.toNat : Int) = (hexD b : Int) := by
 have hb : b.toNat < 128 := by unfold hexP at h; omega
 have := J1g ⟨b.toNat, hb⟩ h
 rw [UInt8.ofNat_toNat] at this
 exact this
theorem JKG {d : Nat} (h : d < 16) : binV .shl (.i .u8 (d : Int)) (.i .u64 4) = some (.i .u8 ((d * 16 : Nat) : Int)) := by
 have e : binV .shl (.i .u8 (d : Int)) (.i .u64 4) = some (.i .u8 (IntKind.u8.wrap ((d : Int) * 16))) := rfl
 rw [e, JV4 (by omega) (by omega)]
 rfl
theorem QTS : ∀ d e : _root_.Fin 16, IntKind.u8.wrap (BitVec.ofInt IntKind.u8.bits ((d.val * 16 : Nat) : Int) ||| BitVec.ofInt IntKind.u8.bits (e.val : Int)).toNat = ((d.val * 16 + e.val : Nat) : Int) := by decide +kernel
theorem YOH {d e : Nat} (h : d < 16) (h2 : e < 16) : binV .or (.i .u8 ((d * 16 : Nat) : Int)) (.i .u8 (e : Int)) = some (.i .u8 ((d * 16 + e : Nat) : Int)) := by
 have e1 : binV .or (.i .u8 ((d * 16 : Nat) : Int)) (.i .u8 (e : Int)) = some (.i .u8 (IntKind.u8.wrap (BitVec.ofInt IntKind.u8.bits ((d * 16 : Nat) : Int) ||| BitVec.ofInt IntKind.u8.bits (e : Int)).toNat)) := by simp [binV, binI]
 rw [e1, QTS ⟨d, h⟩ ⟨e, h2⟩]
theorem zoX {fr : List AV} {h : List AB} {P : Program} {p n m : Nat} {sz sz' : Option Nat} {a : AV} {h' : List AB} : (∃ v, resV fr h [RC.cell n sz, RC.cell m sz'] = some v ∧ Bt P p [v] h [a] h') = FinO P p ((ldV h sz (pl fr n)).bind fun x => (ldV h sz' (pl fr m)).map fun y => .tu [x, y]) h a h' := by
 have e : resV fr h [RC.cell n sz, RC.cell m sz'] = (ldV h sz (pl fr n)).bind fun x => (ldV h sz' (pl fr m)).map fun y => .tu [x, y] := by
  simp only [resV, qUQ, zaK, Q8c, Option.bind_some]
  cases ldV h sz (pl fr n) with
  | none => rfl
  | some x =>
   cases ldV h sz' (pl fr m) <;> rfl
 rw [e]
 rfl
theorem JuD {h : List AB} (hz : h.map AB.freeze = h) {s : List UInt8} (hs : s.length ≤ 1000000) : FnAt Try.prog 76 [.s s] h (idV s) h := by
 refine FnAt.run (by kernel_rfl) (T := ⟨[⟨88, Jwd, fun _ => []⟩, ⟨87, Zf9, fun _ => []⟩, ⟨71, Jks (Zjb, 64), fun _ => []⟩, ⟨89, ZWY, fun _ => []⟩], []⟩) ⟨⟨qYZ, zs3, XcD _, JRx, trivial⟩, trivial⟩ Try.func76 sw76 fun ho hh => ?_
 unfold w76 idV idC
 have hd : ∀ H, Jwd [.i .i64 64] H = some (.p (H.length + 1) 0, H ++ digB H.length 64) := fun _ => rfl
 have hpre : ∀ j H, preV [115, 104, 97, 50, 53, 54, 58] j H = (.p (H.length + 2) 0, H ++ preB H.length Zjb j) := fun _ _ => rfl
 have hr : ∀ A B, repX (h ++ [A, B, .blk true true [.i .i64 64], .blk false true [.f (.func 92) [] [.p (h.length + 2) 0], .b false], .blk true true [.s [115, 104, 97, 50, 53, 54, 58]], .blk false true [.p (h.length + 3) 0], .blk false true [.f (.func 91) [] [.p (h.length + 4) 0, .p (h.length + 5) 0], .b false]]) (h.length + 6) ([115, 104, 97, 50, 53, 54, 58], 64) = True := fun A B =>
  eq_true ⟨by decide, h.length + 4, h.length + 5, h.length + 3, KcN _ _ 6 _ _ _ rfl, KcN _ _ 4 _ _ _ rfl, KcN _ _ 5 _ _ _ rfl, by decide, h.length + 2, KcN _ _ 3 _ _ _ rfl, KcN _ _ 2 _ _ _ rfl⟩
 have hs' := eq_true hs
 cases hf : idF s with
 | some p =>
  have hq : runB zBp Y8W s 0 ([115, 104, 97, 50, 53, 54, 58], 64) = some p := hf
  rw [if_neg (by simp)]
  have qe : JJx [CK.i, CK.i] [.i .i64 8, .i .i64 (p : Int)] [.i .i64 0, .i .i64 0] = some false := by
   simp [JJx, Yng]
  simp only [KXL, JuQ, QbA, KI8, qi4, simprocAttr, CO.tmps, Opd.tmps, optT, Nat.reducePow, Nat.reduceDiv, Nat.reduceMod, hd, hpre, digB, preB, Zjb, Zf9, Jks, hr, hs', hq, fltA, qe, K6Y hh, ZbP hz, qyN hz, KN7 hz, zoX, decide_true, decide_false, ne_eq, not_false_eq_true, not_true_eq_false, false_implies, forall_const, and_true, true_and]
  exact Bt.drop _ hh rfl rfl
 | none =>
  have hq : runB zBp Y8W s 0 ([115, 104, 97, 50, 53, 54, 58], 64) = none := hf
  have qe : JJx [CK.i, CK.i] [.i .i64 0, .i .i64 0] [.i .i64 0, .i .i64 0] = some true := rfl
  rw [if_pos rfl]
  obtain ⟨hlen, hhex⟩ := QE4 hf
  simp only [KXL, JuQ, QbA, KI8, qi4, simprocAttr, CO.tmps, Opd.tmps, optT, Nat.reducePow, Nat.reduceDiv, Nat.reduceMod, hd, hpre, digB, preB, Zjb, Zf9, Jks, hr, hs', hq, fltA, qe, K6Y hh, ZbP hz, qyN hz, KN7 hz, zoX, decide_true, decide_false, ne_eq, not_false_eq_true, not_true_eq_false, false_implies, forall_const, and_true, true_and]
  refine Qxr (S := Nat) (fun k => 32 - k) (fun k => [.s s] ++ tp 1 ++ [.p (h.length + 0) 0, .p (h.length + 1) 0] ++ tp 12 ++ [.i .i64 (k : Int)] ++ tp 28) (fun k => h ++ [.blk true true (ZaU (idBs s) k), .blk true true [.i .i64 0, .i .i64 0]]) (fun k => k ≤ 32) 0 (Nat.zero_le _) ?_ fun k hk => ?_
  ·show Bt _ _ _ _ ([.s s] ++ tp 1 ++ [.p (h.length + 0) 0, .p (h.length + 1) 0] ++ tp 12 ++ [.i .i64 0] ++ tp 28) (h ++ [.blk true true [.i .u8 0, .i .u8 0, .i .u8 0, .i .u8 0, .i .u8 0, .i .u8 0, .i .u8 0, .i .u8 0, .i .u8 0, .i .u8 0, .i .u8 0, .i .u8 0, .i .u8 0, .i .u8 0, .i .u8 0, .i .u8 0, .i .u8 0, .i .u8 0, .i .u8 0, .i .u8 0, .i .u8 0, .i .u8 0, .i .u8 0, .i .u8 0, .i .u8 0, .i .u8 0, .i .u8 0, .i .u8 0, .i .u8 0, .i .u8 0, .i .u8 0, .i .u8 0], .blk true true [.i .i64 0, .i .i64 0]])
   exact Bt.sel [0, 1] hh (by decide) (by simp only [KOx, FrSel, BlkSel, AV.ren, renL, AV.ok, okL, Option.some.injEq, exists_eq_left', List.length_cons, List.length_nil, Nat.reduceAdd, Nat.reduceLT, reduceCtorEq, implies_true, exists_eq']) (by simp only [tp_0, tp_s, List.cons_append, List.nil_append, KOx, FrSel, BlkSel, AV.ren, renL, AV.ok, okL, Option.some.injEq, exists_eq_left', List.length_cons, List.length_nil, Nat.reduceAdd, Nat.reduceLT, reduceCtorEq, implies_true, exists_eq'])
  by_cases g5 : k < 32
  ·have g5' : ((k : Int) < 32) = True := eq_true (by omega)
   have w3 : IntKind.i64.wrap ((k : Int) + 1) = ((k + 1 : Nat) : Int) := YBD (by unfold In64; omega)
   have w4 : IntKind.i64.wrap (2 * (k : Int)) = ((2 * k : Nat) : Int) := by rw [YBD (by unfold In64; omega)]; omega
   have w5 : IntKind.i64.wrap (7 + ((2 * k : Nat) : Int)) = ((7 + 2 * k : Nat) : Int) := by rw [YBD (by unfold In64; omega)]; omega
   have w6 : IntKind.i64.wrap (((7 + 2 * k : Nat) : Int) + 2) = ((7 + (2 * k + 2) : Nat) : Int) := by rw [YBD (by unfold In64; omega)]; omega
   have bm : binV .mul (.i .i64 2) (.i .i64 (k : Int)) = some (.i .i64 (IntKind.i64.wrap (2 * (k : Int)))) := rfl
   have hsl := ZBA (l := s) (n := 7 + 2 * k) (m := 7 + (2 * k + 2)) .i64 .i64 (by omega) (by omega)
   have hL := QIV s
   have hI := Jtx s g5
   obtain ⟨a, ha⟩ : ∃ a, s.getD (7 + 2 * k) 0 = a := ⟨_, rfl⟩
   obtain ⟨b, hb⟩ : ∃ b, s.getD (8 + 2 * k) 0 = b := ⟨_, rfl⟩
   have xa : hexP (a.toNat : Int) := by rw [← ha]; exact hhex (2 * k) (by omega)
   have xb : hexP (b.toNat : Int) := by rw [← hb, show 8 + 2 * k = 7 + (2 * k + 1) from by omega]; exact hhex (2 * k + 1) (by omega)
   rw [ha, hb] at hI
   have hab : (s.take (7 + (2 * k + 2))).drop (7 + 2 * k) = [a, b] := by
    have e1 : s[7 + 2 * k]'(by omega) = a := by rw [← ha, List.getD_eq_getElem?_getD, List.getElem?_eq_getElem (by omega)]; rfl
    have e2 : s[7 + 2 * k + 1]'(by omega) = b := by rw [← hb, List.getD_eq_getElem?_getD, show 8 + 2 * k = 7 + 2 * k + 1 from by omega, List.getElem?_eq_getElem (by omega)]; rfl
    rw [List.drop_take, List.drop_eq_getElem_cons (by omega), List.drop_eq_getElem_cons (by omega), e1, e2, show 7 + (2 * k + 2) - (7 + 2 * k) = 2 from by omega]
    rfl
   rw [hab] at hsl
   rw [KaH _ g5]
   simp only [QbA, KI8, qi4, simprocAttr, CO.tmps, Opd.tmps, optT, Nat.reducePow, Nat.reduceDiv, Nat.reduceMod, g5', bm, w3, w4, w5, w6, hsl, qjR, Yq6, Option.map_some, decide_true, decide_false, ne_eq, not_false_eq_true, not_true_eq_false, false_implies, forall_const, and_true, true_and]
   refine Qxr (S := Nat × Nat) (fun σ => 2 - σ.1) (fun σ => [.s s] ++ tp 1 ++ [.p (h.length + 0) 0, .p (h.length + 1) 0, .i .i64 (k : Int)] ++ tp 11 ++ [.i .i64 (k : Int)] ++ tp 11 ++ [.p (h.length + 2) 0] ++ tp 16) (fun σ => h ++ [.blk true true (Z0e (idBs s) k σ.2), .blk true true [.i .i64 0, .i .i64 0], itr [a, b] σ.1]) (fun σ => (σ.1 = 0 ∧ σ.2 = 0) ∨ (σ.1 = 1 ∧ σ.2 = hexD a) ∨ (σ.1 = 2 ∧ σ.2 = hexD a * 16 + hexD b)) (0, 0) (.inl ⟨rfl, rfl⟩) (Bt.wk (by simp only [QbA, qi4, simprocAttr])) fun σ hσ => ?_
   obtain ⟨p, v⟩ := σ
   dsimp only at hσ ⊢
   have la := Qje xa
   have lb := Qje xb
   have hn : ∀ A B : AB, nxV (h ++ [A, B, itr [a, b] p]) (.p (h.length + 2) 0) = if p < 2 then some (.tu [.b true, .i .i64 (p : Int), .i .i32 ((Utf8.decode ⟨[a, b].toArray⟩ p).1 : Int)], h ++ [A, B, itr [a, b] (p + (Utf8.decode ⟨[a, b].toArray⟩ p).2)]) else some (.tu [.b false], h ++ [A, B, itr [a, b] p]) := fun A B => Zk2 [A, B, itr [a, b] p] 2 [a, b] p rfl
   by_cases p2 : p < 2
   ·obtain ⟨c, hc, xc, hv, hnx⟩ : ∃ c : UInt8, Utf8.decode ⟨[a, b].toArray⟩ p = (c.toNat, 1) ∧ hexP (c.toNat : Int) ∧ v < 16 ∧ ((p + 1 = 0 ∧ v * 16 + hexD c = 0) ∨ (p + 1 = 1 ∧ v * 16 + hexD c = hexD a) ∨ (p + 1 = 2 ∧ v * 16 + hexD c = hexD a * 16 + hexD b)) := by
     rcases hσ with ⟨rfl, rfl⟩ | ⟨rfl, rfl⟩ | ⟨rfl, rfl⟩
     ·exact ⟨a, JDq (l := [a, b]) (pos := 0) (by simp) (by show a.toNat < 128; unfold hexP at xa; omega), xa, by omega, .inr (.inl ⟨rfl, by omega⟩)⟩
     ·exact ⟨b, JDq (l := [a, b]) (pos := 1) (by simp) (by show b.toNat < 128; unfold hexP at xb; omega), xb, la, .inr (.inr ⟨rfl, rfl⟩)⟩
     ·omega
    have lc := Qje xc
    have c128 : ((0 : Int) ≤ (c.toNat : Int) ∧ (c.toNat : Int) < 128) = True := eq_true (by unfold hexP at xc; omega)
    have hbx : bixV [48, 49, 50, 51, 52, 53, 54, 55, 56, 57, 97, 98, 99, 100, 101, 102] (c.toNat : Int) = (hexD c : Int) := KZe xc
    have w8 : IntKind.u8.wrap (hexD c : Int) = (hexD c : Int) := JV4 (by omega) (by omega)
    have f1 := JKG hv
    have f2 := YOH hv lc
    have f3 := XPL (v := v) (idBs s) g5 hL
    have f4 := Z1g (v := v) (v' := v * 16 + hexD c) (idBs s) g5 hL
    have f5 := K0w (v := v) (idBs s) g5 hL
    have f6 : (k + 1 ≤ 32) = True := eq_true (by omega)
    have p2' := eq_true p2
    simp only [QbA, KI8, qi4, simprocAttr, CO.tmps, Opd.tmps, optT, Nat.reducePow, Nat.reduceDiv, Nat.reduceMod, YaU, hn, p2', hc, zyA, qNP, g5, ZWY, c128, hbx, w8, QNf, f1, f2, f3, f4, f5, f6, Nat.mul_one, Nat.zero_add, Option.map_some, K6Y hh, ZbP hz, qyN hz, KN7 hz, decide_true, decide_false, ne_eq, not_false_eq_true, not_true_eq_false, false_implies, forall_const, and_true, true_and]
    exact ⟨(of_eq_true c128).2, rfl, rfl, (p + 1, v * 16 + hexD c), hnx, by dsimp only; omega, Bt.wk (by simp only [QbA, qi4, simprocAttr])⟩
   ·have hv : v = ((idBs s).getD k 0).toNat := by
     have : v = hexD a * 16 + hexD b := by rcases hσ with ⟨q, _⟩ | ⟨q, _⟩ | ⟨_, q⟩ <;> omega
     rw [hI, this, UInt8.toNat_ofNat', Nat.mod_eq_of_lt (by omega)]
    have p2' := eq_false p2
    rw [hv, zwq _ g5 hL]
    simp only [QbA, KI8, qi4, simprocAttr, CO.tmps, Opd.tmps, optT, Nat.reducePow, Nat.reduceDiv, Nat.reduceMod, YaU, hn, p2', w3, decide_true, decide_false, ne_eq, not_false_eq_true, not_true_eq_false, false_implies, forall_const, and_true, true_and]
    refine ⟨k + 1, g5, by dsimp only; omega, ?_⟩
    exact Bt.sel [0, 1] hh (by decide) (by simp only [KOx, FrSel, BlkSel, AV.ren, renL, AV.ok, okL, Option.some.injEq, exists_eq_left', List.length_cons, List.length_nil, Nat.reduceAdd, Nat.reduceLT, reduceCtorEq, implies_true, exists_eq']) (by simp only [tp_0, tp_s, List.cons_append, List.nil_append, KOx, FrSel, BlkSel, AV.ren, renL, AV.ok, okL, Option.some.injEq, exists_eq_left', List.length_cons, List.length_nil, Nat.reduceAdd, Nat.reduceLT, reduceCtorEq, implies_true, exists_eq'])
  ·have g5' : ((k : Int) < 32) = False := eq_false (by omega)
   obtain rfl : k = 32 := by omega
   rw [KcD _ (QIV s)]
   obtain ⟨b1, b2, b3, b4, b5⟩ := Jdz (QIV s)
   have b6 : ((32 : Nat) ≤ 32) = True := eq_true (Nat.le_refl _)
   simp only [QbA, KI8, qi4, simprocAttr, CO.tmps, Opd.tmps, optT, Nat.reducePow, Nat.reduceDiv, Nat.reduceMod, g5', b1, b2, b3, b4, b5, b6, Qj1, K6Y hh, ZbP hz, qyN hz, KN7 hz, zoX, decide_true, decide_false, ne_eq, not_false_eq_true, not_true_eq_false, false_implies, forall_const, and_true, true_and]
   exact Bt.drop _ hh rfl (by simp [AV.ok, okL, b4])
theorem KxU : Spec Try.prog 76 T_ID := by
 intro args h v h' e
 unfold T_ID at e
 split at e
 ·split at e
  ·rename_i hs
   cases e
   exact FnAt.c (FnAt.frz0 fun hz => JuD hz hs)
  ·cases e
 ·cases e
end Go.Proofs.Ytbcpcjofkfgjoaa
end
section
namespace Go.Proofs.Ytbcpcjofkfgjoaa
set_option maxRecDepth 100000
set_option maxHeartbeats 4000000
def digI (c : Int) : Int := if 48 ≤ c ∧ c ≤ 57 then c - 48 else if 97 ≤ c ∧ c ≤ 102 then c - 97 + 10 else -1
def K36 : List AV → List AB → Option (AV × List AB)
 | [.i .u8 c], h => if 0 ≤ c ∧ c ≤ 255 then some (.i .i64 (digI c), h) else none
 | _, _ => none
theorem J2K : Spec Try.prog 80 K36 := by
  intro args h v h' e
  unfold K36 at e
  split at e
  · rename_i c
    split at e
    · rename_i hc
      cases e
      refine FnAt.c (FnAt.run (by kernel_rfl) (T := ⟨[], []⟩) ⟨trivial, trivial⟩ Try.func80 sw80 fun ho hh => ?_)
      unfold w80
      rcases emT (48 ≤ c) with ⟨d1, c1⟩ | ⟨d1, c1⟩ <;> rcases emT (c ≤ 57) with ⟨d2, c2⟩ | ⟨d2, c2⟩ <;> rcases emT (97 ≤ c) with ⟨d3, c3⟩ | ⟨d3, c3⟩ <;> rcases emT (c ≤ 102) with ⟨d4, c4⟩ | ⟨d4, c4⟩ <;> (first | (exfalso; omega) | skip)
      all_goals
        first
          | (have w1 : IntKind.u8.wrap (c - 48) = c - 48 := JV4 (by omega) (by omega)
             have w2 : IntKind.i64.wrap (c - 48) = c - 48 := YBD (by unfold In64; omega)
             simp only [KXL, JuQ, QbA, KI8, qi4, if_true, if_false, ↓reduceIte, Nat.reduceAdd, Nat.reduceSub, Nat.reduceLeDiff, Nat.reduceEqDiff, Nat.reduceMul, Nat.reduceLT, Int.reduceLT, Int.reduceLE, Int.reduceEq, CO.tmps, Opd.tmps, optT, Nat.reducePow, Nat.reduceDiv, Nat.reduceMod, c1, c2, c3, c4, w1, w2, QNf, Option.map_some, decide_true, decide_false, ne_eq, not_false_eq_true, not_true_eq_false, false_implies, forall_const, and_true, true_and]
             exact Bt.dropI _ hh (by unfold digI; omega))
          | (have w1 : IntKind.u8.wrap (c - 97) = c - 97 := JV4 (by omega) (by omega)
             have w2 : IntKind.i64.wrap (c - 97) = c - 97 := YBD (by unfold In64; omega)
             have w3 : IntKind.i64.wrap (c - 97 + 10) = c - 97 + 10 := YBD (by unfold In64; omega)
             simp only [KXL, JuQ, QbA, KI8, qi4, if_true, if_false, ↓reduceIte, Nat.reduceAdd, Nat.reduceSub, Nat.reduceLeDiff, Nat.reduceEqDiff, Nat.reduceMul, Nat.reduceLT, Int.reduceLT, Int.reduceLE, Int.reduceEq, CO.tmps, Opd.tmps, optT, Nat.reducePow, Nat.reduceDiv, Nat.reduceMod, c1, c2, c3, c4, w1, w2, w3, QNf, Option.map_some, decide_true, decide_false, ne_eq, not_false_eq_true, not_true_eq_false, false_implies, forall_const, and_true, true_and]
             exact Bt.dropI _ hh (by unfold digI; omega))
          | (simp only [KXL, JuQ, QbA, KI8, qi4, if_true, if_false, ↓reduceIte, Nat.reduceAdd, Nat.reduceSub, Nat.reduceLeDiff, Nat.reduceEqDiff, Nat.reduceMul, Nat.reduceLT, Int.reduceLT, Int.reduceLE, Int.reduceEq, CO.tmps, Opd.tmps, optT, Nat.reducePow, Nat.reduceDiv, Nat.reduceMod, c1, c2, c3, c4, QNf, Option.map_some, decide_true, decide_false, ne_eq, not_false_eq_true, not_true_eq_false, false_implies, forall_const, and_true, true_and]
             exact Bt.dropI _ hh (by unfold digI; omega))
    · cases e
  · cases e
def stq (i : Nat) : QX := (Zjb.drop i, 64 - (i - 7))
def XNg (s : List UInt8) (k : Nat) : List AV := if k % 2 = 0 then ZaU (idBs s) (k / 2) else Z0e (idBs s) (k / 2) (hexD (s.getD (7 + 2 * (k / 2)) 0))
theorem Yqa (s : List UInt8) {k : Nat} (h : k < 64) : XNg s k = Z0e (idBs s) (k / 2) (if k % 2 = 0 then 0 else hexD (s.getD (6 + k) 0)) := by
 unfold XNg
 by_cases hk : k % 2 = 0
 ·rw [if_pos hk, if_pos hk, KaH _ (by omega)]
 ·rw [if_neg hk, if_neg hk, show 7 + 2 * (k / 2) = 6 + k from by omega]
theorem YyD (s : List UInt8) {k : Nat} (h : k < 64) (h0 : k % 2 = 1 → hexD (s.getD (6 + k) 0) < 16) (h1 : hexD (s.getD (7 + k) 0) < 16) : Z0e (idBs s) (k / 2) ((if k % 2 = 0 then 0 else hexD (s.getD (6 + k) 0)) * 16 + hexD (s.getD (7 + k) 0)) = XNg s (k + 1) := by
 unfold XNg
 by_cases hk : k % 2 = 0
 ·rw [if_pos hk, if_neg (by omega), show (k + 1) / 2 = k / 2 from by omega, show 7 + 2 * (k / 2) = 7 + k from by omega, Nat.zero_mul, Nat.zero_add]
 ·rw [if_neg hk, if_pos (by omega), show (k + 1) / 2 = k / 2 + 1 from by omega]
  have h0 := h0 (by omega)
  have := Jtx s (i := k / 2) (by omega)
  rw [show 7 + 2 * (k / 2) = 6 + k from by omega, show 8 + 2 * (k / 2) = 7 + k from by omega] at this
  rw [← zwq _ (by omega) (QIV s), this, UInt8.toNat_ofNat', Nat.mod_eq_of_lt (by omega)]
theorem zjw {b : UInt8} : (hexP (b.toNat : Int) → digI (b.toNat : Int) = (hexD b : Int)) ∧ (¬ hexP (b.toNat : Int) → digI (b.toNat : Int) = -1) := by
 unfold hexP digI hexD
 constructor
 ·intro h
  rcases h with h | h
  ·rw [if_pos (by omega), if_pos (by omega)]; omega
  ·rw [if_neg (by omega), if_pos (by omega), if_neg (by omega)]; omega
 ·intro h
  rw [if_neg (by omega), if_neg (by omega)]
theorem z2C {h : List AB} (hz : h.map AB.freeze = h) {s : List UInt8} (hs : s.length ≤ 1000000) : FnAt Try.prog 62 [.s s] h (idV s) h := by
 refine FnAt.run (by kernel_rfl) (T := ⟨[⟨77, KGL, fun _ => []⟩, ⟨80, K36, fun _ => []⟩], []⟩) ⟨⟨XQ4, J2K, trivial⟩, trivial⟩ Try.func62 sw62 fun ho hh => ?_
 unfold w62 idV idC
 have hl7 : (([115, 104, 97, 50, 53, 54, 58] : List UInt8).length : Int) = 7 := rfl
 have hL := QIV s
 simp only [KXL, JuQ, QbA, KI8, qi4, if_true, if_false, ↓reduceIte, Nat.reduceAdd, Nat.reduceSub, Nat.reduceLeDiff, Nat.reduceEqDiff, Nat.reduceMul, Nat.reduceLT, Int.reduceLT, Int.reduceLE, Int.reduceEq, CO.tmps, Opd.tmps, optT, Nat.reducePow, Nat.reduceDiv, Nat.reduceMod, decide_true, decide_false, ne_eq, not_false_eq_true, not_true_eq_false, false_implies, forall_const, and_true, true_and]
 refine Qxr (S := Nat) (fun i => 71 - i) (fun i => [.s s] ++ tp 1 ++ [.p (h.length + 0) 0, .p (h.length + 1) 0, .s [115, 104, 97, 50, 53, 54, 58], .p (h.length + 2) 0, .i .i64 (i : Int)] ++ tp 78) (fun i => h ++ [.blk true true [.i .u8 0, .i .u8 0, .i .u8 0, .i .u8 0, .i .u8 0, .i .u8 0, .i .u8 0, .i .u8 0, .i .u8 0, .i .u8 0, .i .u8 0, .i .u8 0, .i .u8 0, .i .u8 0, .i .u8 0, .i .u8 0, .i .u8 0, .i .u8 0, .i .u8 0, .i .u8 0, .i .u8 0, .i .u8 0, .i .u8 0, .i .u8 0, .i .u8 0, .i .u8 0, .i .u8 0, .i .u8 0, .i .u8 0, .i .u8 0, .i .u8 0, .i .u8 0], .blk true true [.i .i64 0, .i .i64 0], .blk true true (XNg s (i - 7))]) (fun i => (i ≤ 71 ∧ i ≤ s.length) ∧ runB zBp Y8W (s.drop i) i (stq i) = idF s ∧ ∀ k, k < i - 7 → hexP ((s.getD (7 + k) 0).toNat : Int)) 0 ⟨⟨Nat.zero_le _, Nat.zero_le _⟩, rfl, fun k hk => by omega⟩ (Bt.wk (by simp only [QbA, qi4, if_true, if_false, reduceIte, Nat.reduceAdd, Nat.reduceSub, Nat.reduceLeDiff, Nat.reduceEqDiff, Nat.reduceMul, Nat.reduceLT, Int.reduceLT, Int.reduceLE, Int.reduceEq])) fun i hi => ?_
 obtain ⟨⟨hi, hil⟩, hr, hx⟩ := hi
 have w71 : IntKind.i64.wrap (7 + 64) = 71 := by decide
 by_cases g5 : i < 71
 case neg =>
  obtain rfl : i = 71 := by omega
  have g5' : (((71 : Nat) : Int) < 71) = False := eq_false (by decide)
  have hq : stq 71 = ([], 0) := rfl
  rw [hq] at hr
  by_cases g8 : 71 < s.length
  ·have g8' : ((71 : Int) < (s.length : Int)) = True := eq_true (by omega)
   have : idF s = some 71 := by
    rw [← hr, qMh g8, show zBp ([], 0) ((s[71]).toNat : Int) = none from by unfold zBp; exact if_neg (fun z => absurd z.1 (Nat.lt_irrefl 0))]
    split
    ·rfl
    ·rename_i q e
     split at e <;> cases e
   rw [this, if_neg (by simp)]
   simp only [QbA, KI8, qi4, if_true, if_false, ↓reduceIte, Nat.reduceAdd, Nat.reduceSub, Nat.reduceLeDiff, Nat.reduceEqDiff, Nat.reduceMul, Nat.reduceLT, Int.reduceLT, Int.reduceLE, Int.reduceEq, CO.tmps, Opd.tmps, optT, Nat.reducePow, Nat.reduceDiv, Nat.reduceMod, zcA, X8C, hl7, w71, g5', g8', KGL, fltA, zoX, decide_true, decide_false, ne_eq, not_false_eq_true, not_true_eq_false, false_implies, forall_const, and_true, true_and]
   exact Bt.drop _ hh rfl rfl
  ·have g8' : ((71 : Int) < (s.length : Int)) = False := eq_false (by omega)
   have : idF s = none := by
    rw [← hr, List.drop_eq_nil_of_le (by omega)]
    rfl
   have hK : XNg s (71 - 7) = (idBs s).map u8A := by
    show ZaU (idBs s) 32 = _
    exact KcD _ hL
   rw [this, if_pos rfl, hK]
   obtain ⟨b1, b2, b3, b4, b5⟩ := Jdz hL
   have b6 : ((32 : Nat) ≤ 32) = True := eq_true (Nat.le_refl _)
   have b7 : over [.i .u8 0, .i .u8 0, .i .u8 0, .i .u8 0, .i .u8 0, .i .u8 0, .i .u8 0, .i .u8 0, .i .u8 0, .i .u8 0, .i .u8 0, .i .u8 0, .i .u8 0, .i .u8 0, .i .u8 0, .i .u8 0, .i .u8 0, .i .u8 0, .i .u8 0, .i .u8 0, .i .u8 0, .i .u8 0, .i .u8 0, .i .u8 0, .i .u8 0, .i .u8 0, .i .u8 0, .i .u8 0, .i .u8 0, .i .u8 0, .i .u8 0, .i .u8 0] 0 ((idBs s).map u8A) = (idBs s).map u8A := by
    simp only [over, List.take_zero, List.nil_append, Nat.zero_add]
    rw [List.drop_eq_nil_of_le (by rw [b1]; exact Nat.le_refl _), List.append_nil]
   simp only [QbA, KI8, qi4, if_true, if_false, ↓reduceIte, Nat.reduceAdd, Nat.reduceSub, Nat.reduceLeDiff, Nat.reduceEqDiff, Nat.reduceMul, Nat.reduceLT, Int.reduceLT, Int.reduceLE, Int.reduceEq, CO.tmps, Opd.tmps, optT, Nat.reducePow, Nat.reduceDiv, Nat.reduceMod, zcA, X8C, hl7, w71, g5', g8', KGL, fltA, b1, b2, b3, b4, b5, b6, b7, zoX, decide_true, decide_false, ne_eq, not_false_eq_true, not_true_eq_false, false_implies, forall_const, and_true, true_and]
   exact Bt.drop _ hh rfl (by simp [AV.ok, okL, b4])
 have g5' : ((i : Int) < 71) = True := eq_true (by omega)
 have w1 : IntKind.i64.wrap ((i : Int) + 1) = ((i + 1 : Nat) : Int) := YBD (by unfold In64; omega)
 by_cases g6 : i < s.length
 case neg =>
  have g6' : ((s.length : Int) ≤ (i : Int)) = True := eq_true (by omega)
  have : idF s = some i := by
   rw [← hr, List.drop_eq_nil_of_le (by omega)]
   have : Y8W (stq i) = false := by
    unfold Y8W stq
    by_cases h7 : i < 7
    ·have : Zjb.drop i = Zjb[i]'h7 :: Zjb.drop (i + 1) := List.drop_eq_getElem_cons h7
     simp only [this]
    ·have : Zjb.drop i = [] := List.drop_eq_nil_of_le (by unfold Zjb; simp; omega)
     simp only [this]
     exact decide_eq_false (by omega)
   simp only [runB, this]
   rfl
  rw [this, if_neg (by simp)]
  simp only [QbA, KI8, qi4, if_true, if_false, ↓reduceIte, Nat.reduceAdd, Nat.reduceSub, Nat.reduceLeDiff, Nat.reduceEqDiff, Nat.reduceMul, Nat.reduceLT, Int.reduceLT, Int.reduceLE, Int.reduceEq, CO.tmps, Opd.tmps, optT, Nat.reducePow, Nat.reduceDiv, Nat.reduceMod, zcA, X8C, hl7, w71, g5', g6', KGL, fltA, zoX, K6Y hh, ZbP hz, qyN hz, KN7 hz, decide_true, decide_false, ne_eq, not_false_eq_true, not_true_eq_false, false_implies, forall_const, and_true, true_and]
  exact Bt.drop _ hh rfl rfl
 have g6' : ((s.length : Int) ≤ (i : Int)) = False := eq_false (by omega)
 have x1 := QK1 (l := s) (n := i) .i64 g6
 have hd := qMh (step := zBp) (ends := Y8W) (q := stq i) g6
 rw [hr] at hd
 have hget : s[i] = s.getD i 0 := by rw [List.getD_eq_getElem?_getD, List.getElem?_eq_getElem g6]; rfl
 rw [hget] at hd
 obtain ⟨c, hc⟩ : ∃ c, s.getD i 0 = c := ⟨_, rfl⟩
 rw [hc] at hd x1
 by_cases g7 : i < 7
 ·have g7' : ((i : Int) < 7) = True := eq_true (by omega)
  have g7'' : ((7 : Int) ≤ (i : Int)) = False := eq_false (by omega)
  have x2 : ixsV (.s [115, 104, 97, 50, 53, 54, 58]) (.i .i64 (i : Int)) = some (.i .u8 ((Zjb.getD i 0).toNat : Int)) := QK1 (l := Zjb) (n := i) .i64 g7
  have hq : stq i = (Zjb.getD i 0 :: Zjb.drop (i + 1), 64) := by
   unfold stq
   have : Zjb.drop i = Zjb[i]'g7 :: Zjb.drop (i + 1) := List.drop_eq_getElem_cons g7
   rw [this, List.getD_eq_getElem?_getD, List.getElem?_eq_getElem g7, show 64 - (i - 7) = 64 from by omega]
   rfl
  have hsm : (Zjb.getD i 0).toNat < 128 := by
   have : ∀ j : _root_.Fin 7, (Zjb.getD j.val 0).toNat < 128 := by decide
   exact this ⟨i, g7⟩
  obtain ⟨b, hb⟩ : ∃ b, Zjb.getD i 0 = b := ⟨_, rfl⟩
  rw [hb] at x2 hq hsm
  rw [hq] at hd
  by_cases hcb : c = b
  ·subst hcb
   rw [if_pos hsm, show zBp (c :: Zjb.drop (i + 1), 64) (c.toNat : Int) = some (Zjb.drop (i + 1), 64) from if_pos ⟨rfl, by omega⟩] at hd
   dsimp only at hd
   have ne' : ((c.toNat : Int) = (c.toNat : Int)) = True := eq_true rfl
   simp only [QbA, KI8, qi4, if_true, if_false, ↓reduceIte, Nat.reduceAdd, Nat.reduceSub, Nat.reduceLeDiff, Nat.reduceEqDiff, Nat.reduceMul, Nat.reduceLT, Int.reduceLT, Int.reduceLE, Int.reduceEq, CO.tmps, Opd.tmps, optT, Nat.reducePow, Nat.reduceDiv, Nat.reduceMod, zcA, X8C, hl7, w71, w1, g5', g6', g7', g7'', K0O, x1, x2, ne', KGL, Option.map_some, zoX, K6Y hh, ZbP hz, qyN hz, KN7 hz, decide_true, decide_false, ne_eq, not_false_eq_true, not_true_eq_false, false_implies, forall_const, and_true, true_and]
   refine ⟨i + 1, ⟨⟨g5, g6⟩, ?_, fun k hk => by omega⟩, by dsimp only; omega, ?_⟩
   ·rw [show stq (i + 1) = (Zjb.drop (i + 1), 64) from by unfold stq; rw [show 64 - (i + 1 - 7) = 64 from by omega]]
    exact hd.symm
   ·dsimp only
    rw [show i + 1 - 7 = i - 7 from by omega]
    exact Bt.wk (by simp only [QbA, qi4, if_true, if_false, reduceIte, Nat.reduceAdd, Nat.reduceSub, Nat.reduceLeDiff, Nat.reduceEqDiff, Nat.reduceMul, Nat.reduceLT, Int.reduceLT, Int.reduceLE, Int.reduceEq])
  ·have ne' : ((c.toNat : Int) = (b.toNat : Int)) = False := eq_false fun z => hcb (UInt8.toNat_inj.1 (by omega))
   have hst : zBp (b :: Zjb.drop (i + 1), 64) (c.toNat : Int) = none := if_neg fun z => of_eq_false ne' z.1
   rw [hst] at hd
   have : idF s = some i := by
    rw [hd]
    split
    ·rfl
    ·rename_i q e
     split at e <;> cases e
   rw [this, if_neg (by simp)]
   simp only [QbA, KI8, qi4, if_true, if_false, ↓reduceIte, Nat.reduceAdd, Nat.reduceSub, Nat.reduceLeDiff, Nat.reduceEqDiff, Nat.reduceMul, Nat.reduceLT, Int.reduceLT, Int.reduceLE, Int.reduceEq, CO.tmps, Opd.tmps, optT, Nat.reducePow, Nat.reduceDiv, Nat.reduceMod, zcA, X8C, hl7, w71, w1, g5', g6', g7', g7'', K0O, x1, x2, ne', KGL, fltA, Option.map_some, zoX, K6Y hh, ZbP hz, qyN hz, KN7 hz, decide_true, decide_false, ne_eq, not_false_eq_true, not_true_eq_false, false_implies, forall_const, and_true, true_and]
   exact Bt.drop _ hh rfl rfl
 ·have g7' : ((i : Int) < 7) = False := eq_false (by omega)
  have g7'' : ((7 : Int) ≤ (i : Int)) = True := eq_true (by omega)
  obtain ⟨k, rfl⟩ : ∃ k, i = 7 + k := ⟨i - 7, by omega⟩
  have hk : k < 64 := by omega
  have hq : stq (7 + k) = ([], 64 - k) := by
   unfold stq
   rw [List.drop_eq_nil_of_le (by unfold Zjb; simp), show 7 + k - 7 = k from by omega]
  rw [hq] at hd
  have c255 : ((c.toNat : Int) ≤ 255) = True := eq_true (by have := c.toNat_lt; omega)
  by_cases hx16 : hexP (c.toNat : Int)
  ·have hsm : c.toNat < 128 := by unfold hexP at hx16; omega
   rw [if_pos hsm, show zBp ([], 64 - k) (c.toNat : Int) = some ([], 64 - k - 1) from if_pos ⟨by omega, hx16⟩] at hd
   dsimp only at hd
   have dI := zjw.1 hx16
   have dlt := Qje hx16
   have dn : ((hexD c : Int) < 0) = False := eq_false (by omega)
   have w7 : IntKind.i64.wrap (((7 + k : Nat) : Int) - 7) = (k : Int) := by rw [YBD (by unfold In64; omega)]; omega
   have bq : binV .quo (.i .i64 (k : Int)) (.i .i64 2) = some (.i .i64 ((k / 2 : Nat) : Int)) := by
    have : binV .quo (.i .i64 (k : Int)) (.i .i64 2) = some (.i .i64 (IntKind.i64.wrap (Int.tdiv (k : Int) 2))) := rfl
    rw [this, Int.tdiv_eq_ediv_of_nonneg (by omega), YBD (by unfold In64; omega)]
    rfl
   have h0 : k % 2 = 1 → hexD (s.getD (6 + k) 0) < 16 := fun z => Qje (by have := hx (k - 1) (by omega); rw [show 7 + (k - 1) = 6 + k from by omega] at this; exact this)
   have hX := Yqa s hk
   have hN := YyD s hk h0 (by rw [hc]; exact dlt)
   rw [hc] at hN
   have hv : (if k % 2 = 0 then 0 else hexD (s.getD (6 + k) 0)) < 16 := by
    split
    ·decide
    ·exact h0 (by omega)
   obtain ⟨v, hvv⟩ : ∃ v, (if k % 2 = 0 then 0 else hexD (s.getD (6 + k) 0)) = v := ⟨_, rfl⟩
   rw [hvv] at hX hN hv
   rw [show 7 + k - 7 = k from by omega, hX]
   have wm : binV .mul (.i .u8 (v : Int)) (.i .u8 16) = some (.i .u8 ((v * 16 : Nat) : Int)) := by
    have : binV .mul (.i .u8 (v : Int)) (.i .u8 16) = some (.i .u8 (IntKind.u8.wrap ((v : Int) * 16))) := rfl
    rw [this, JV4 (by omega) (by omega)]
    rfl
   have w8 : IntKind.u8.wrap (hexD c : Int) = (hexD c : Int) := JV4 (by omega) (by omega)
   have wa : IntKind.u8.wrap (((v * 16 : Nat) : Int) + (hexD c : Int)) = ((v * 16 + hexD c : Nat) : Int) := by rw [JV4 (by omega) (by omega)]; omega
   have k2 : k / 2 < 32 := by omega
   have f3 := XPL (v := v) (idBs s) k2 hL
   have f4 := Z1g (v := v) (v' := v * 16 + hexD c) (idBs s) k2 hL
   have f5 := K0w (v := v) (idBs s) k2 hL
   have f6 : (k / 2 + 1 ≤ 32) = True := eq_true (by omega)
   simp only [QbA, KI8, qi4, if_true, if_false, ↓reduceIte, Nat.reduceAdd, Nat.reduceSub, Nat.reduceLeDiff, Nat.reduceEqDiff, Nat.reduceMul, Nat.reduceLT, Int.reduceLT, Int.reduceLE, Int.reduceEq, CO.tmps, Opd.tmps, optT, Nat.reducePow, Nat.reduceDiv, Nat.reduceMod, zcA, X8C, hl7, w71, w1, w7, g5', g6', g7', g7'', K0O, zyA, qNP, k2, bq, x1, K36, c255, dI, dn, wm, w8, wa, f3, f4, f5, f6, QNf, KGL, Nat.mul_one, Nat.zero_add, Option.map_some, zoX, K6Y hh, ZbP hz, qyN hz, KN7 hz, decide_true, decide_false, ne_eq, not_false_eq_true, not_true_eq_false, false_implies, forall_const, and_true, true_and]
   refine ⟨7 + k + 1, ⟨⟨g5, g6⟩, ?_, fun j hj => ?_⟩, by dsimp only; omega, ?_⟩
   ·rw [show stq (7 + k + 1) = ([], 64 - k - 1) from by unfold stq; rw [List.drop_eq_nil_of_le (by unfold Zjb; simp; omega), show 64 - (7 + k + 1 - 7) = 64 - k - 1 from by omega]]
    exact hd.symm
   ·by_cases hjk : j = k
    ·subst hjk; rw [hc]; exact hx16
    ·exact hx j (by omega)
   ·dsimp only
    rw [show 7 + k + 1 - 7 = k + 1 from by omega, ← hN]
    exact Bt.wk (by simp only [QbA, qi4, if_true, if_false, reduceIte, Nat.reduceAdd, Nat.reduceSub, Nat.reduceLeDiff, Nat.reduceEqDiff, Nat.reduceMul, Nat.reduceLT, Int.reduceLT, Int.reduceLE, Int.reduceEq])
  ·have dI := zjw.2 hx16
   have dn : ((-1 : Int) < 0) = True := eq_true (by decide)
   have hst : zBp ([], 64 - k) (c.toNat : Int) = none := if_neg fun z => hx16 z.2
   rw [hst] at hd
   have : idF s = some (7 + k) := by
    rw [hd]
    split
    ·rfl
    ·rename_i q e
     split at e <;> cases e
   rw [this, if_neg (by simp)]
   simp only [QbA, KI8, qi4, if_true, if_false, ↓reduceIte, Nat.reduceAdd, Nat.reduceSub, Nat.reduceLeDiff, Nat.reduceEqDiff, Nat.reduceMul, Nat.reduceLT, Int.reduceLT, Int.reduceLE, Int.reduceEq, CO.tmps, Opd.tmps, optT, Nat.reducePow, Nat.reduceDiv, Nat.reduceMod, zcA, X8C, hl7, w71, w1, g5', g6', g7', g7'', K0O, x1, K36, c255, dI, dn, KGL, fltA, Option.map_some, zoX, K6Y hh, ZbP hz, qyN hz, KN7 hz, decide_true, decide_false, ne_eq, not_false_eq_true, not_true_eq_false, false_implies, forall_const, and_true, true_and]
   exact Bt.drop _ hh rfl rfl
theorem Y50 : Spec Try.prog 62 T_ID := by
 intro args h v h' e
 unfold T_ID at e
 split at e
 ·split at e
  ·rename_i hs
   cases e
   exact FnAt.c (FnAt.frz0 fun hz => z2C hz hs)
  ·cases e
 ·cases e
end Go.Proofs.Ytbcpcjofkfgjoaa
end
section
namespace Go.Proofs.Ytbcpcjofkfgjoaa
set_option maxRecDepth 100000
set_option maxHeartbeats 4000000
def Z88 (s : List UInt8) : Prop := ¬ (128 : Int) < (s.length : Int) ∧ runB ZJo XV3 s 0 ⟨7, .w⟩ = none
def QQ2 (s : List UInt8) : Prop := ¬ (64 : Int) < (s.length : Int) ∧ runB JL1 Yak s 0 .first = none
instance (s : List UInt8) : Decidable (Z88 s) := inferInstanceAs (Decidable (_ ∧ _))
instance (s : List UInt8) : Decidable (QQ2 s) := inferInstanceAs (Decidable (_ ∧ _))
theorem qNv (s : List UInt8) : ∃ e p : Int, Z8Z s = .ag [.i .i64 e, .i .i64 p] ∧ (Z88 s → e = 0 ∧ p = 0) ∧ (¬ Z88 s → e ≠ 0) := by
 unfold Z8Z Z88
 by_cases g : (128 : Int) < (s.length : Int)
 ·rw [if_pos g]
  exact ⟨4, 128, rfl, fun z => absurd g z.1, fun _ => by decide⟩
 ·rw [if_neg g]
  cases hr : runB ZJo XV3 s 0 ⟨7, .w⟩ with
  | none => exact ⟨0, 0, rfl, fun _ => ⟨rfl, rfl⟩, fun z => absurd ⟨g, rfl⟩ z⟩
  | some p => exact ⟨7, p, rfl, fun z => (by cases z.2), fun _ => by decide⟩
theorem Y3B (s : List UInt8) : ∃ e p : Int, tagV s = .ag [.i .i64 e, .i .i64 p] ∧ (QQ2 s → e = 0 ∧ p = 0) ∧ (¬ QQ2 s → e ≠ 0) := by
 unfold tagV QQ2
 by_cases g : (64 : Int) < (s.length : Int)
 ·rw [if_pos g]
  exact ⟨4, 64, rfl, fun z => absurd g z.1, fun _ => by decide⟩
 ·rw [if_neg g]
  cases hr : runB JL1 Yak s 0 .first with
  | none => exact ⟨0, 0, rfl, fun _ => ⟨rfl, rfl⟩, fun z => absurd ⟨g, rfl⟩ z⟩
  | some p => exact ⟨7, p, rfl, fun z => (by cases z.2), fun _ => by decide⟩
theorem YHV (s : List UInt8) : ∃ e p : Int, idV s = .tu [.ag (idC s), .ag [.i .i64 e, .i .i64 p]] ∧ (idF s = none → e = 0 ∧ p = 0) ∧ (¬ idF s = none → e ≠ 0) := by
 unfold idV
 cases hr : idF s with
 | none => exact ⟨0, 0, rfl, fun _ => ⟨rfl, rfl⟩, fun z => absurd rfl z⟩
 | some p => exact ⟨8, p, rfl, fun z => (by cases z), fun _ => by decide⟩
theorem Jqs (s : List UInt8) : (idC s).length = 32 := by
 unfold idC
 split
 ·rw [List.length_map, QIV]
 ·rw [List.length_replicate]
def errR (s : List UInt8) : Int := if Z88 s then 0 else 7
def errT (s : List UInt8) : Int := if QQ2 s then 0 else 7
def errI (s : List UInt8) : Int := if idF s = none then 0 else 8
def errN (s : List UInt8) : Int := if s = [] then 0 else 7
def repE (k : Int) (s : List UInt8) : Int := if k = 3 then errN s else errR s
def aftK (k : Int) (s : List UInt8) : Int := if k = 1 then errT s else if k = 2 then errI s else errR s
def aftE (k : Int) (s : List UInt8) : Int := if s = [] then 0 else aftK k s
def chkE (k : Int) (r a : List UInt8) : Int := if k < 1 ∨ 3 < k then 5 else if repE k r = 0 then aftE k a else repE k r
def QCM : List AV → List AB → Option (AV × List AB)
 | [.ag [.i .i64 k, .s r, .s _]], h => if r.length ≤ 1000000 then some (.i .i64 (repE k r), h) else none
 | _, _ => none
theorem qNK : Spec Try.prog 44 QCM := by
 intro args h v h' e
 unfold QCM at e
 split at e
 ·rename_i k r a
  split at e
  ·rename_i hr
   cases e
   refine FnAt.c (FnAt.run (by kernel_rfl) (T := ⟨[⟨60, zsI, fun _ => []⟩], []⟩) ⟨⟨JKb, trivial⟩, trivial⟩ Try.func44 sw44 fun ho hh => ?_)
   unfold w44 repE
   by_cases h3 : k = 3
   ·rw [if_pos h3]
    subst h3
    unfold errN
    by_cases hz : r = []
    ·rw [if_pos hz]
     simp only [KXL, JuQ, QbA, KI8, qi4, simprocAttr, CO.tmps, Opd.tmps, optT, Nat.reducePow, Nat.reduceDiv, Nat.reduceMod, KP7, eq_true hz, decide_true, decide_false, ne_eq, not_false_eq_true, not_true_eq_false, false_implies, forall_const, and_true, true_and]
     exact Bt.drop _ hh rfl rfl
    ·rw [if_neg hz]
     simp only [KXL, JuQ, QbA, KI8, qi4, simprocAttr, CO.tmps, Opd.tmps, optT, Nat.reducePow, Nat.reduceDiv, Nat.reduceMod, KP7, eq_false hz, decide_true, decide_false, ne_eq, not_false_eq_true, not_true_eq_false, false_implies, forall_const, and_true, true_and]
     exact Bt.drop _ hh rfl rfl
   ·rw [if_neg h3]
    obtain ⟨e, p, e1, e2, e3⟩ := qNv r
    have hr' := eq_true hr
    unfold errR
    by_cases hg : Z88 r
    ·rw [if_pos hg]
     have hne : (e = 0) = True := eq_true (e2 hg).1
     simp only [KXL, JuQ, QbA, KI8, qi4, simprocAttr, CO.tmps, Opd.tmps, optT, Nat.reducePow, Nat.reduceDiv, Nat.reduceMod, zsI, hr', e1, hne, eq_false h3, decide_true, decide_false, ne_eq, not_false_eq_true, not_true_eq_false, false_implies, forall_const, and_true, true_and]
     exact Bt.drop _ hh rfl rfl
    ·rw [if_neg hg]
     have hne : (e = 0) = False := eq_false (e3 hg)
     simp only [KXL, JuQ, QbA, KI8, qi4, simprocAttr, CO.tmps, Opd.tmps, optT, Nat.reducePow, Nat.reduceDiv, Nat.reduceMod, zsI, hr', e1, hne, eq_false h3, decide_true, decide_false, ne_eq, not_false_eq_true, not_true_eq_false, false_implies, forall_const, and_true, true_and]
     exact Bt.drop _ hh rfl rfl
  ·cases e
 ·cases e
def Ypx : List AV → List AB → Option (AV × List AB)
 | [.ag [.i .i64 k, .s _, .s a]], h => if a.length ≤ 1000000 then some (.i .i64 (aftE k a), h) else none
 | _, _ => none
theorem QMd : Spec Try.prog 45 Ypx := by
 intro args h v h' e
 unfold Ypx at e
 split at e
 ·rename_i k r a
  split at e
  ·rename_i ha
   cases e
   refine FnAt.c (FnAt.run (by kernel_rfl) (T := ⟨[⟨60, zsI, fun _ => []⟩, ⟨61, YCE, fun _ => []⟩, ⟨62, T_ID, fun _ => []⟩], []⟩) ⟨⟨JKb, Qqq, Y50, trivial⟩, trivial⟩ Try.func45 sw45 fun ho hh => ?_)
   unfold w45 aftE aftK
   have ha' := eq_true ha
   by_cases hz : a = []
   ·rw [if_pos hz]
    simp only [KXL, JuQ, QbA, KI8, qi4, simprocAttr, CO.tmps, Opd.tmps, optT, Nat.reducePow, Nat.reduceDiv, Nat.reduceMod, XsR, eq_true hz, decide_true, decide_false, ne_eq, not_false_eq_true, not_true_eq_false, false_implies, forall_const, and_true, true_and]
    exact Bt.drop _ hh rfl rfl
   rw [if_neg hz]
   by_cases k1 : k = 1
   ·rw [if_pos k1]
    obtain ⟨e, p, e1, e2, e3⟩ := Y3B a
    unfold errT
    by_cases hg : QQ2 a
    ·rw [if_pos hg]
     have hne : (e = 0) = True := eq_true (e2 hg).1
     simp only [KXL, JuQ, QbA, KI8, qi4, simprocAttr, CO.tmps, Opd.tmps, optT, Nat.reducePow, Nat.reduceDiv, Nat.reduceMod, XsR, YCE, ha', e1, hne, eq_false hz, eq_true k1, decide_true, decide_false, ne_eq, not_false_eq_true, not_true_eq_false, false_implies, forall_const, and_true, true_and]
     exact Bt.drop _ hh rfl rfl
    ·rw [if_neg hg]
     have hne : (e = 0) = False := eq_false (e3 hg)
     simp only [KXL, JuQ, QbA, KI8, qi4, simprocAttr, CO.tmps, Opd.tmps, optT, Nat.reducePow, Nat.reduceDiv, Nat.reduceMod, XsR, YCE, ha', e1, hne, eq_false hz, eq_true k1, decide_true, decide_false, ne_eq, not_false_eq_true, not_true_eq_false, false_implies, forall_const, and_true, true_and]
     exact Bt.drop _ hh rfl rfl
   rw [if_neg k1]
   by_cases k2 : k = 2
   ·rw [if_pos k2]
    obtain ⟨e, p, e1, e2, e3⟩ := YHV a
    unfold errI
    by_cases hg : idF a = none
    ·rw [if_pos hg]
     have hne : (e = 0) = True := eq_true (e2 hg).1
     simp only [KXL, JuQ, QbA, KI8, qi4, simprocAttr, CO.tmps, Opd.tmps, optT, Nat.reducePow, Nat.reduceDiv, Nat.reduceMod, XsR, T_ID, ha', e1, hne, eq_false hz, eq_false k1, eq_true k2, decide_true, decide_false, ne_eq, not_false_eq_true, not_true_eq_false, false_implies, forall_const, and_true, true_and]
     exact Bt.drop _ hh rfl rfl
    ·rw [if_neg hg]
     have hne : (e = 0) = False := eq_false (e3 hg)
     simp only [KXL, JuQ, QbA, KI8, qi4, simprocAttr, CO.tmps, Opd.tmps, optT, Nat.reducePow, Nat.reduceDiv, Nat.reduceMod, XsR, T_ID, ha', e1, hne, eq_false hz, eq_false k1, eq_true k2, decide_true, decide_false, ne_eq, not_false_eq_true, not_true_eq_false, false_implies, forall_const, and_true, true_and]
     exact Bt.drop _ hh rfl rfl
   rw [if_neg k2]
   obtain ⟨e, p, e1, e2, e3⟩ := qNv a
   unfold errR
   by_cases hg : Z88 a
   ·rw [if_pos hg]
    have hne : (e = 0) = True := eq_true (e2 hg).1
    simp only [KXL, JuQ, QbA, KI8, qi4, simprocAttr, CO.tmps, Opd.tmps, optT, Nat.reducePow, Nat.reduceDiv, Nat.reduceMod, XsR, zsI, ha', e1, hne, eq_false hz, eq_false k1, eq_false k2, decide_true, decide_false, ne_eq, not_false_eq_true, not_true_eq_false, false_implies, forall_const, and_true, true_and]
    exact Bt.drop _ hh rfl rfl
   ·rw [if_neg hg]
    have hne : (e = 0) = False := eq_false (e3 hg)
    simp only [KXL, JuQ, QbA, KI8, qi4, simprocAttr, CO.tmps, Opd.tmps, optT, Nat.reducePow, Nat.reduceDiv, Nat.reduceMod, XsR, zsI, ha', e1, hne, eq_false hz, eq_false k1, eq_false k2, decide_true, decide_false, ne_eq, not_false_eq_true, not_true_eq_false, false_implies, forall_const, and_true, true_and]
    exact Bt.drop _ hh rfl rfl
  ·cases e
 ·cases e
def JqV : List AV → List AB → Option (AV × List AB)
 | [.ag [.i .i64 k, .s r, .s a]], h => if r.length ≤ 1000000 ∧ a.length ≤ 1000000 then some (.i .i64 (chkE k r a), h) else none
 | _, _ => none
theorem XIP : Spec Try.prog 22 JqV := by
 intro args h v h' e
 unfold JqV at e
 split at e
 ·rename_i k r a
  split at e
  ·rename_i hl
   cases e
   refine FnAt.c (FnAt.run (by kernel_rfl) (T := ⟨[⟨44, QCM, fun _ => []⟩, ⟨45, Ypx, fun _ => []⟩], []⟩) ⟨⟨qNK, QMd, trivial⟩, trivial⟩ Try.func22 sw22 fun ho hh => ?_)
   unfold w22 chkE
   have hr' := eq_true hl.1
   have ha' := eq_true hl.2
   by_cases k1 : k < 1
   ·rw [if_pos (.inl k1)]
    simp only [KXL, JuQ, QbA, KI8, qi4, simprocAttr, CO.tmps, Opd.tmps, optT, Nat.reducePow, Nat.reduceDiv, Nat.reduceMod, eq_true k1, decide_true, decide_false, ne_eq, not_false_eq_true, not_true_eq_false, false_implies, forall_const, and_true, true_and]
    exact Bt.drop _ hh rfl rfl
   by_cases k3 : 3 < k
   ·rw [if_pos (.inr k3)]
    simp only [KXL, JuQ, QbA, KI8, qi4, simprocAttr, CO.tmps, Opd.tmps, optT, Nat.reducePow, Nat.reduceDiv, Nat.reduceMod, eq_false k1, eq_true k3, decide_true, decide_false, ne_eq, not_false_eq_true, not_true_eq_false, false_implies, forall_const, and_true, true_and]
    exact Bt.drop _ hh rfl rfl
   rw [if_neg (fun z => z.elim k1 k3)]
   by_cases he : repE k r = 0
   ·rw [if_pos he]
    simp only [KXL, JuQ, QbA, KI8, qi4, simprocAttr, CO.tmps, Opd.tmps, optT, Nat.reducePow, Nat.reduceDiv, Nat.reduceMod, QCM, Ypx, hr', ha', eq_false k1, eq_false k3, he, decide_true, decide_false, ne_eq, not_false_eq_true, not_true_eq_false, false_implies, forall_const, and_true, true_and]
    exact Bt.drop _ hh rfl rfl
   ·rw [if_neg he]
    simp only [KXL, JuQ, QbA, KI8, qi4, simprocAttr, CO.tmps, Opd.tmps, optT, Nat.reducePow, Nat.reduceDiv, Nat.reduceMod, QCM, Ypx, hr', ha', eq_false k1, eq_false k3, eq_false he, decide_true, decide_false, ne_eq, not_false_eq_true, not_true_eq_false, false_implies, forall_const, and_true, true_and]
    exact Bt.drop _ hh rfl rfl
  ·cases e
 ·cases e
def YNH : List UInt8 := [116, 97, 103, 115]
def ZJf : List UInt8 := [109, 97, 110, 105, 102, 101, 115, 116, 115]
def Kkh : List UInt8 := [114, 101, 112, 111, 115]
def XQH (k : Int) : List UInt8 := if k = 1 then YNH else if k = 2 then ZJf else Kkh
def Y17 : List AV → List AB → Option (AV × List AB)
 | [], h => some (.sl (h.length + 0) 0 3 3 none, h ++ [.blk true true [.s YNH, .s ZJf, .s Kkh]])
 | _, _ => none
theorem qrK : Spec Try.prog 38 Y17 := by
 intro args h v h' e
 unfold Y17 at e
 split at e
 ·cases e
  refine FnAt.c (FnAt.run (by kernel_rfl) (T := ⟨[], []⟩) ⟨trivial, trivial⟩ Try.func38 sw38 fun ho hh => ?_)
  unfold w38
  simp only [KXL, JuQ, QbA, KI8, qi4, simprocAttr, CO.tmps, Opd.tmps, optT, Nat.reducePow, Nat.reduceDiv, Nat.reduceMod, decide_true, decide_false, ne_eq, not_false_eq_true, not_true_eq_false, false_implies, forall_const, and_true, true_and]
  exact Bt.wk1 (Wk.refl _)
 ·cases e
end Go.Proofs.Ytbcpcjofkfgjoaa
end
section
namespace Go.Proofs.Ytbcpcjofkfgjoaa
set_option maxRecDepth 100000
set_option maxHeartbeats 4000000
def Ygt (k : Int) (r a : List UInt8) : List UInt8 := XQH k ++ [58] ++ r ++ [58] ++ a
def txtV (k : Int) (r a : List UInt8) : AV := .tu [.s (if chkE k r a = 0 then Ygt k r a else []), .i .i64 (chkE k r a)]
def Kzg : List AV → List AB → Option (AV × List AB)
 | [.ag [.i .i64 k, .s r, .s a]], h => if r.length ≤ 1000000 ∧ a.length ≤ 1000000 then some (txtV k r a, h) else none
 | _, _ => none
theorem Zcz {x y : List UInt8} (h : x.length + y.length ≤ 10000000) : binV .add (.s x) (.s y) = some (.s (x ++ y)) := by
 show (if ((x.length + y.length : Nat) : Int) > IntKind.i64.max then none else some (AV.s (x ++ y))) = _
 rw [if_neg]
 have : IntKind.i64.max = 9223372036854775807 := by decide
 omega
theorem Xb3 {w r a : List UInt8} (hw : w.length ≤ 9) (hr : r.length ≤ 1000000) (ha : a.length ≤ 1000000) :
  binV .add (.s w) (.s [58]) = some (.s (w ++ [58])) ∧ binV .add (.s (w ++ [58])) (.s r) = some (.s (w ++ [58] ++ r)) ∧ binV .add (.s (w ++ [58] ++ r)) (.s [58]) = some (.s (w ++ [58] ++ r ++ [58])) ∧ binV .add (.s (w ++ [58] ++ r ++ [58])) (.s a) = some (.s (w ++ [58] ++ r ++ [58] ++ a)) := by
 refine ⟨Zcz ?_, Zcz ?_, Zcz ?_, Zcz ?_⟩ <;> simp only [List.length_append, List.length_cons, List.length_nil] <;> omega
theorem tn_0 : Int.toNat 0 = 0 := _root_.id rfl
theorem tn_1 : Int.toNat 1 = 1 := _root_.id rfl
theorem tn_2 : Int.toNat 2 = 2 := _root_.id rfl
theorem Q74 {k : Int} {r a : List UInt8} (h : chkE k r a = 0) : k = 1 ∨ k = 2 ∨ k = 3 := by
 unfold chkE at h
 by_cases hk : k < 1 ∨ 3 < k
 ·rw [if_pos hk] at h; cases h
 ·omega
theorem QIY {h : List AB} (hz : h.map AB.freeze = h) {k : Int} {r a : List UInt8} (hl : r.length ≤ 1000000 ∧ a.length ≤ 1000000) : FnAt Try.prog 18 [.ag [.i .i64 k, .s r, .s a]] h (txtV k r a) h := by
 refine FnAt.run (by kernel_rfl) (T := ⟨[⟨22, JqV, fun _ => []⟩, ⟨38, Y17, fun _ => []⟩], []⟩) ⟨⟨XIP, qrK, trivial⟩, trivial⟩ Try.func18 sw18 fun ho hh => ?_
 unfold w18 txtV
 have hr' := eq_true hl.1
 have ha' := eq_true hl.2
 by_cases hc : chkE k r a = 0
 ·rw [if_pos hc]
  unfold Ygt
  rcases Q74 hc with rfl | rfl | rfl
  ·have w0 : IntKind.i64.wrap (1 - 1) = 0 := by decide
   obtain ⟨a1, a2, a3, a4⟩ := Xb3 (w := YNH) (by decide) hl.1 hl.2
   simp only [KXL, JuQ, QbA, KI8, qi4, if_true, if_false, ↓reduceIte, Nat.reduceAdd, Nat.reduceSub, Nat.reduceLeDiff, Nat.reduceEqDiff, Nat.reduceMul, Nat.reduceLT, Int.reduceLT, Int.reduceLE, Int.reduceEq, CO.tmps, Opd.tmps, optT, Nat.reducePow, Nat.reduceDiv, Nat.reduceMod, JqV, Y17, hr', ha', hc, w0, a1, a2, a3, a4, tn_0, tn_1, tn_2, Nat.mul_one, Nat.zero_add, K6Y hh, ZbP hz, qyN hz, KN7 hz, decide_true, decide_false, ne_eq, not_false_eq_true, not_true_eq_false, false_implies, forall_const, and_true, true_and]
   exact Bt.drop _ hh rfl rfl
  ·have w0 : IntKind.i64.wrap (2 - 1) = 1 := by decide
   obtain ⟨a1, a2, a3, a4⟩ := Xb3 (w := ZJf) (by decide) hl.1 hl.2
   simp only [KXL, JuQ, QbA, KI8, qi4, if_true, if_false, ↓reduceIte, Nat.reduceAdd, Nat.reduceSub, Nat.reduceLeDiff, Nat.reduceEqDiff, Nat.reduceMul, Nat.reduceLT, Int.reduceLT, Int.reduceLE, Int.reduceEq, CO.tmps, Opd.tmps, optT, Nat.reducePow, Nat.reduceDiv, Nat.reduceMod, JqV, Y17, hr', ha', hc, w0, a1, a2, a3, a4, tn_0, tn_1, tn_2, Nat.mul_one, Nat.zero_add, K6Y hh, ZbP hz, qyN hz, KN7 hz, decide_true, decide_false, ne_eq, not_false_eq_true, not_true_eq_false, false_implies, forall_const, and_true, true_and]
   exact Bt.drop _ hh rfl rfl
  ·have w0 : IntKind.i64.wrap (3 - 1) = 2 := by decide
   obtain ⟨a1, a2, a3, a4⟩ := Xb3 (w := Kkh) (by decide) hl.1 hl.2
   simp only [KXL, JuQ, QbA, KI8, qi4, if_true, if_false, ↓reduceIte, Nat.reduceAdd, Nat.reduceSub, Nat.reduceLeDiff, Nat.reduceEqDiff, Nat.reduceMul, Nat.reduceLT, Int.reduceLT, Int.reduceLE, Int.reduceEq, CO.tmps, Opd.tmps, optT, Nat.reducePow, Nat.reduceDiv, Nat.reduceMod, JqV, Y17, hr', ha', hc, w0, a1, a2, a3, a4, tn_0, tn_1, tn_2, Nat.mul_one, Nat.zero_add, K6Y hh, ZbP hz, qyN hz, KN7 hz, decide_true, decide_false, ne_eq, not_false_eq_true, not_true_eq_false, false_implies, forall_const, and_true, true_and]
   exact Bt.drop _ hh rfl rfl
 ·rw [if_neg hc]
  simp only [KXL, JuQ, QbA, KI8, qi4, if_true, if_false, ↓reduceIte, Nat.reduceAdd, Nat.reduceSub, Nat.reduceLeDiff, Nat.reduceEqDiff, Nat.reduceMul, Nat.reduceLT, Int.reduceLT, Int.reduceLE, Int.reduceEq, CO.tmps, Opd.tmps, optT, Nat.reducePow, Nat.reduceDiv, Nat.reduceMod, JqV, Y17, hr', ha', eq_false hc, decide_true, decide_false, ne_eq, not_false_eq_true, not_true_eq_false, false_implies, forall_const, and_true, true_and]
  exact Bt.drop _ hh rfl rfl
theorem QDL : Spec Try.prog 18 Kzg := by
 intro args h v h' e
 unfold Kzg at e
 split at e
 ·split at e
  ·rename_i hl
   cases e
   exact FnAt.c (FnAt.frz0 fun hz => QIY hz hl)
  ·cases e
 ·cases e
def ZKp : List UInt8 → Nat → Option Nat
 | [], _ => none
 | b :: l, i => if b = 58 then some i else ZKp l (i + 1)
def zWb (s : List UInt8) (from_ : Nat) : Option Nat := ZKp (s.drop from_) from_
def natI : Option Nat → Int
 | none => -1
 | some n => n
theorem qG3 {s : List UInt8} {i : Nat} (h : i < s.length) : zWb s i = if s.getD i 0 = 58 then some i else zWb s (i + 1) := by
 unfold zWb
 rw [List.drop_eq_getElem_cons h, List.getD_eq_getElem?_getD, List.getElem?_eq_getElem h]
 rfl
theorem q30 {s : List UInt8} {i : Nat} (h : s.length ≤ i) : zWb s i = none := by
 unfold zWb
 rw [List.drop_eq_nil_of_le h]
 rfl
theorem qsK {s : List UInt8} {i p : Nat} (e : zWb s i = some p) : i ≤ p ∧ p < s.length ∧ s.getD p 0 = 58 := by
 by_cases h : i < s.length
 ·rw [qG3 h] at e
  by_cases hb : s.getD i 0 = 58
  ·rw [if_pos hb] at e
   cases e
   exact ⟨Nat.le_refl _, h, hb⟩
  ·rw [if_neg hb] at e
   have := qsK e
   exact ⟨by omega, this.2⟩
 ·rw [q30 (by omega)] at e
  cases e
termination_by s.length - i
def JX6 : List AV → List AB → Option (AV × List AB)
 | [.s s, .i .i64 n], h => if 0 ≤ n ∧ s.length ≤ 1000000 ∧ n ≤ 2000000 then some (.i .i64 (natI (zWb s n.toNat)), h) else none
 | _, _ => none
theorem KyU : Spec Try.prog 43 JX6 := by
 intro args h v h' e
 unfold JX6 at e
 split at e
 ·rename_i s n
  split at e
  ·rename_i hn
   cases e
   obtain ⟨m, rfl⟩ : ∃ m : Nat, n = (m : Int) := ⟨n.toNat, by omega⟩
   rw [Int.toNat_natCast]
   refine FnAt.c (FnAt.run (by kernel_rfl) (T := ⟨[], []⟩) ⟨trivial, trivial⟩ Try.func43 sw43 fun ho hh => ?_)
   unfold w43
   simp only [KXL, JuQ, QbA, KI8, qi4, if_true, if_false, ↓reduceIte, Nat.reduceAdd, Nat.reduceSub, Nat.reduceLeDiff, Nat.reduceEqDiff, Nat.reduceMul, Nat.reduceLT, Int.reduceLT, Int.reduceLE, Int.reduceEq, CO.tmps, Opd.tmps, optT, Nat.reducePow, Nat.reduceDiv, Nat.reduceMod, decide_true, decide_false, ne_eq, not_false_eq_true, not_true_eq_false, false_implies, forall_const, and_true, true_and]
   refine Qxr (S := Nat) (fun i => s.length - i) (fun i => [.s s] ++ tp 4 ++ [.i .i64 (i : Int)] ++ tp 12) (fun i => h ++ []) (fun i => i ≤ 2000000 ∧ zWb s i = zWb s m) m ⟨by omega, rfl⟩ (Bt.wk (by simp only [QbA, qi4, if_true, if_false, reduceIte, Nat.reduceAdd, Nat.reduceSub, Nat.reduceLeDiff, Nat.reduceEqDiff, Nat.reduceMul, Nat.reduceLT, Int.reduceLT, Int.reduceLE, Int.reduceEq])) fun i hi => ?_
   obtain ⟨hi, hc⟩ := hi
   have w1 : IntKind.i64.wrap ((i : Int) + 1) = ((i + 1 : Nat) : Int) := YBD (by unfold In64; omega)
   by_cases g : i < s.length
   ·have g' : ((i : Int) < (s.length : Int)) = True := eq_true (by omega)
    have x1 := QK1 (l := s) (n := i) .i64 g
    have ha := qG3 g
    obtain ⟨c, hcc⟩ : ∃ c, s.getD i 0 = c := ⟨_, rfl⟩
    rw [hcc] at x1 ha
    by_cases h58 : c = 58
    ·have e58 : ((c.toNat : Int) = 58) = True := eq_true (by rw [h58]; rfl)
     rw [if_pos h58, hc] at ha
     simp only [QbA, KI8, qi4, if_true, if_false, ↓reduceIte, Nat.reduceAdd, Nat.reduceSub, Nat.reduceLeDiff, Nat.reduceEqDiff, Nat.reduceMul, Nat.reduceLT, Int.reduceLT, Int.reduceLE, Int.reduceEq, CO.tmps, Opd.tmps, optT, Nat.reducePow, Nat.reduceDiv, Nat.reduceMod, zcA, X8C, g', K0O, x1, e58, Option.map_some, decide_true, decide_false, ne_eq, not_false_eq_true, not_true_eq_false, false_implies, forall_const, and_true, true_and]
     exact Bt.drop _ hh (by rw [ha]; rfl) rfl
    ·have e58 : ((c.toNat : Int) = 58) = False := eq_false fun z => h58 (UInt8.toNat_inj.1 (by show c.toNat = 58; omega))
     rw [if_neg h58, hc] at ha
     simp only [QbA, KI8, qi4, if_true, if_false, ↓reduceIte, Nat.reduceAdd, Nat.reduceSub, Nat.reduceLeDiff, Nat.reduceEqDiff, Nat.reduceMul, Nat.reduceLT, Int.reduceLT, Int.reduceLE, Int.reduceEq, CO.tmps, Opd.tmps, optT, Nat.reducePow, Nat.reduceDiv, Nat.reduceMod, zcA, X8C, g', w1, K0O, x1, e58, Option.map_some, decide_true, decide_false, ne_eq, not_false_eq_true, not_true_eq_false, false_implies, forall_const, and_true, true_and]
     exact ⟨i + 1, ⟨by omega, ha.symm⟩, by dsimp only; omega, Bt.wk (by simp only [QbA, qi4, if_true, if_false, reduceIte, Nat.reduceAdd, Nat.reduceSub, Nat.reduceLeDiff, Nat.reduceEqDiff, Nat.reduceMul, Nat.reduceLT, Int.reduceLT, Int.reduceLE, Int.reduceEq])⟩
   ·have g' : ((i : Int) < (s.length : Int)) = False := eq_false (by omega)
    have ha := q30 (s := s) (i := i) (by omega)
    rw [hc] at ha
    simp only [QbA, KI8, qi4, if_true, if_false, ↓reduceIte, Nat.reduceAdd, Nat.reduceSub, Nat.reduceLeDiff, Nat.reduceEqDiff, Nat.reduceMul, Nat.reduceLT, Int.reduceLT, Int.reduceLE, Int.reduceEq, CO.tmps, Opd.tmps, optT, Nat.reducePow, Nat.reduceDiv, Nat.reduceMod, zcA, X8C, g', decide_true, decide_false, ne_eq, not_false_eq_true, not_true_eq_false, false_implies, forall_const, and_true, true_and]
    exact Bt.drop _ hh (by rw [ha]; rfl) rfl
  ·cases e
 ·cases e
end Go.Proofs.Ytbcpcjofkfgjoaa
end
