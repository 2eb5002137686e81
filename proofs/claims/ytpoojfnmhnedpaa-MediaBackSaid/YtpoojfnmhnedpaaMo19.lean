/- Part 19 of what the laws' proofs rest on. No condition. -/
import Derived.Test.YtpoojfnmhnedpaaMo18
set_option linter.all false
section
namespace Go.Proofs.Ytpoojfnmhnedpaa
set_option maxRecDepth 100000
set_option maxHeartbeats 4000000
noncomputable def JdO : List AV → List AB → Option (AV × List AB)
 | [a], h => (getS Xdk h a).bind fun xs => if xs.length ≤ 1000000 then some (rsl Xdk h.length xs, h ++ [resB Xdk true xs]) else none
 | _, _ => none
theorem zrp : Spec Try.prog 26 JdO := by
 intro args h v h' e
 unfold JdO at e
 split at e
 ·rename_i a
  obtain ⟨xs, ha, e⟩ := Zly e
  split at e
  ·rename_i hl
   cases e
   refine FnAt.c ?_
   refine FnAt.run (by kernel_rfl) (T := ⟨[], []⟩) ⟨trivial, trivial⟩ Try.func26 sw26 fun ho hh => ?_
   simp only [JjW, Bool.and_eq_true] at ho
   have fa := ha.fx ho.1 (sz := 1) rfl
   have fs := ha.src (sz := 1) rfl
   unfold w26
   by_cases h0 : xs.length = 0
   ·simp only [JaF, Qv5, Zsz, qup, simprocAttr, fa, fs, h0, Zs6]
    exact Bt.one 0 hh (fun _ => Wk.empty _ _ _ _ _ _) (by simp) (fun h => absurd h0 h)
   ·simp only [JaF, Qv5, Zsz, qup, simprocAttr, fa, fs, h0, Zs6]
    exact ⟨⟨by omega, by unfold maxLen; omega⟩, Bt.one 1 hh (fun h => absurd h h0) (by simp) (fun _ => ⟨rfl, rfl⟩)⟩
  ·cases e
 ·cases e
def KfG : List AV → List AB → Option (AV × List AB)
 | [.i .i64 a, .i .i64 b], h => if (-9223372036854775808 ≤ a ∧ a ≤ 9223372036854775807) ∧ (-9223372036854775808 ≤ b ∧ b ≤ 9223372036854775807) then some (.i .i64 (if b ≤ 0 then 0 else a % b), h) else none
 | _, _ => none
theorem XDP : Spec Try.prog 25 KfG := by
 intro args h v h' e
 unfold KfG at e
 split at e
 ·rename_i a b
  split at e
  ·rename_i hc
   obtain ⟨ha, hb⟩ := hc
   cases e
   refine FnAt.c (FnAt.run (by kernel_rfl) (T := ⟨[], []⟩) ⟨trivial, trivial⟩ Try.func25 sw25 fun ho hh => ?_)
   unfold w25
   by_cases h0 : b ≤ 0
   ·have h0' := eq_true h0
    simp only [JaF, Qv5, Zsz, qup, simprocAttr, h0']
    exact ⟨Bt.eq rfl (List.append_nil h), fun q => q.elim⟩
   ·have h0' := eq_false h0
    have e1 : binV .rem (.i .i64 a) (.i .i64 b) = some (.i .i64 (a.tmod b)) := by
     show (if b = 0 then none else some (AV.i .i64 (a.tmod b))) = _
     rw [if_neg (by omega)]
    have t1 : -b < a.tmod b ∧ a.tmod b < b := ⟨Int.lt_tmod_of_pos a (by omega), Int.tmod_lt_of_pos a (by omega)⟩
    have em : a % b = a.tmod b % b := by
     have h1 := Int.mul_tdiv_add_tmod a b
     conv => lhs; rw [← h1]
     exact Int.mul_add_emod_self_left b _ _
    rw [if_neg h0]
    by_cases hn : a.tmod b < 0
    ·have e2 : IntKind.i64.wrap (a.tmod b + b) = a.tmod b + b := KqL (by unfold In64; omega)
     have e3 : a % b = a.tmod b + b := by rw [em, ← Int.add_emod_right, Int.emod_eq_of_lt (by omega) (by omega)]
     have hn' := eq_true hn
     simp only [JaF, Qv5, Zsz, qup, simprocAttr, h0', e1, e2, hn']
     first
      | exact ⟨fun q => q.elim, Bt.eq (by rw [e3]) (List.append_nil h), fun q => q.elim⟩
      | exact ⟨fun q => q.elim, fun _ => Bt.eq (by rw [e3]) (List.append_nil h), fun q => absurd hn q⟩
    ·have e3 : a % b = a.tmod b := by rw [em, Int.emod_eq_of_lt (by omega) (by omega)]
     have hn' := eq_false hn
     simp only [JaF, Qv5, Zsz, qup, simprocAttr, h0', e1, hn']
     exact ⟨fun q => q.elim, fun q => q.elim, Bt.eq (by rw [e3]) (List.append_nil h)⟩
  ·cases e
 ·cases e
end Go.Proofs.Ytpoojfnmhnedpaa
end
section
namespace Go.Proofs.Ytpoojfnmhnedpaa
set_option maxRecDepth 100000
set_option maxHeartbeats 4000000
theorem ZUQ {m : Man} (h : ManIn m) : EB m.kind m.title (dsc m.config) (m.layers.map dsc) (m.subs.map dsc) := by
 have hdb : ∀ d, DeIn d → DB (dsc d) := fun d hd => ⟨by have := hd.m0; have := hd.m1; unfold In64 dsc; dsimp only; omega, by have := hd.s0; have := hd.s1; unfold In64 dsc; dsimp only; omega, by have := hd.pl; unfold dsc; dsimp only; omega⟩
 refine ⟨?_, by have := h.tit; omega, ?_, by have := h.lay; have := h.sub; simp only [List.length_map]; omega, fun d hd => ?_⟩
 ·by_cases h3 : m.kind = 3
  ·rw [h3]; decide
  ·rw [(Jc1 h.kind h3).1]; decide
 ·by_cases h3 : m.kind = 3
  ·exact hdb _ (h.all m.config (by unfold allD; rw [if_pos h3]; simp))
  ·rw [(Jc1 h.kind h3).2.2]
   exact Yuz rfl rfl rfl
 ·rw [← List.map_append] at hd
  obtain ⟨x, hx, rfl⟩ := List.mem_map.1 hd
  exact hdb x (h.all x (by unfold allD; rw [List.append_assoc]; exact List.mem_append_right _ hx))
theorem QKY (a t : UInt8) : binV .xor (u8A a) (u8A t) = some (u8A (a ^^^ t)) := by
 unfold u8A
 simp only [binV, binI, if_true, Option.some.injEq, AV.i.injEq, true_and]
 have e0 : IntKind.bits .u8 = 8 := rfl
 have e1 : ∀ x : UInt8, (BitVec.ofInt 8 (x.toNat : Int)).toNat = x.toNat := fun x => by
  rw [BitVec.ofInt_natCast, BitVec.toNat_ofNat]
  exact Nat.mod_eq_of_lt (by have := x.toNat_lt; omega)
 rw [e0, BitVec.toNat_xor, e1, e1, IntKind.wrap_u8, UInt8.toNat_xor]
 have h1 := Nat.xor_lt_two_pow (n := 8) (a.toNat_lt) (t.toNat_lt)
 omega
theorem YMu (l : List UInt8) {n : Nat} (h : n < l.length) (x : UInt8) : over (Xdk.cells l) n [u8A x] = Xdk.cells (l.set n x) := by
 rw [Yq3, Yq3]
 refine List.ext_getElem? fun k => ?_
 unfold over
 rw [List.map_set, List.getElem?_set]
 by_cases hk : n = k
 ·subst hk
  rw [if_pos rfl, if_pos (by rw [List.length_map]; exact h), List.append_assoc, List.getElem?_append_right (by rw [List.length_take]; omega), List.length_take, List.length_map, show n - min n l.length = 0 by omega]
  rfl
 ·rw [if_neg hk]
  by_cases hlt : k < n
  ·rw [List.append_assoc, List.getElem?_append_left (by rw [List.length_take, List.length_map]; omega), List.getElem?_take, if_pos hlt]
  ·rw [List.getElem?_append_right (by simp; omega), List.getElem?_drop]
   congr 1
   simp
   omega
theorem z3G (c : Dsc) : (∀ a b (ls ss : List Dsc), (deR.f c ++ [rsl deR a ls, rsl deR b ss]).length = 37) ∧ (∀ a b (ls ss : List Dsc), (deR.f c ++ [rsl deR a ls, rsl deR b ss]).all (wrOk false) = true) ∧ (∀ a b (ls ss : List Dsc) (zs : List AV), zs.length = 37 → over zs 0 (deR.f c ++ [rsl deR a ls, rsl deR b ss]) = deR.f c ++ [rsl deR a ls, rsl deR b ss]) ∧ (∀ a b (ls ss : List Dsc), (deR.f c ++ [rsl deR a ls, rsl deR b ss]).take 37 = deR.f c ++ [rsl deR a ls, rsl deR b ss]) := by
 have h1 : ∀ a b (ls ss : List Dsc), (deR.f c ++ [rsl deR a ls, rsl deR b ss]).length = 37 := fun a b ls ss => (KMZ c _ _).1
 exact ⟨h1, fun a b ls ss => YNd c (X2a _ _) (X2a _ _), fun a b ls ss zs hz => ZjI _ _ ((h1 _ _ _ _).trans hz.symm), fun a b ls ss => List.take_of_length_le (by rw [h1]; exact Nat.le_refl _)⟩
theorem QZ4 (H : List AB) (a b : Nat) : inM H (.ag (.i .i64 manZ.kind :: .s manZ.title :: (deR.f (dsc manZ.config) ++ [rsl deR a (manZ.layers.map dsc), rsl deR b (manZ.subs.map dsc)]))) = some (0, [], dsc deZ, rsl deR a [], rsl deR b [], [], []) := Kkg (JMO _ _ _) (JMO _ _ _)
theorem Xwj (a b c d : AV) : (MT.key (0, [], dsc deZ, a, b, [], []) = MT.key (0, [], dsc deZ, c, d, [], [])) = True := eq_true rfl
theorem qm4 (id o n c : Nat) (k : Option Nat) : lenV (.sl id o n c k) = some (n : Int) := _root_.id rfl
theorem zO7 {h : List AB} (hz : h.map AB.freeze = h) {s : AV} {b : List UInt8} (hs : Rd Xdk h s b) (a : Int) (ha : -9223372036854775808 ≤ a ∧ a ≤ 9223372036854775807) (t : Int) (ht : 0 ≤ t ∧ t ≤ 255) : FnAt Try.prog 7 [s, .i .i64 a, .i .u8 t] h (.b true) h := by
 refine FnAt.run (by kernel_rfl) (T := ⟨[⟨5, YUt, fun _ => []⟩, ⟨20, Qil, fun _ => []⟩, ⟨11, QYE, fun _ => []⟩, ⟨18, Kho, fun _ => []⟩, ⟨14, Kf7, fun _ => []⟩, ⟨25, KfG, fun _ => []⟩], []⟩) ⟨⟨XHa, Xqp, JHI, KXS, Jkz, XDP, trivial⟩, trivial⟩ Try.func7 sw7 fun ho hh => ?_
 simp only [JjW, Bool.and_eq_true] at ho
 have f1 := hs.fx ho.1 (sz := 1) rfl
 unfold w7
 by_cases g1 : 4096 < b.length
 ·have g1' : ((4096 : Int) < (b.length : Int)) = True := eq_true (by omega)
  simp only [JaF, Qv5, Zsz, qtN, qup, simprocAttr, CO.tmps, Opd.tmps, optT, Nat.reducePow, Nat.reduceDiv, Nat.reduceMod, f1, g1', YUt]
  exact Bt.drop _ hh rfl rfl
 have g1' : ((4096 : Int) < (b.length : Int)) = False := eq_false (by omega)
 have g2' : (b.length ≤ 1000000) = True := eq_true (by omega)
 have hat := qR3 b
 have hid := Jsa b
 obtain ⟨D, hD⟩ : ∃ D, D = mdec b := ⟨_, rfl⟩
 rw [← hD] at hat hid
 have iml : ∀ (H : List AB) (l s : AV), getS deR H l = some (D.1.layers.map dsc) → getS deR H s = some (D.1.subs.map dsc) → inM H (.ag (.i .i64 D.1.kind :: .s D.1.title :: (deR.f (dsc D.1.config) ++ [l, s]))) = some (D.1.kind, D.1.title, dsc D.1.config, l, s, D.1.layers.map dsc, D.1.subs.map dsc) := fun H l s q1 q2 => Kkg q1 q2
 by_cases g3 : D.2.1 = 0
 case neg =>
  have g3' := eq_false g3
  have hz' : D.1 = manZ := by rw [hD]; rw [hD] at g3; exact JfL g3
  have hat1 := eq_true hat.1
  have hat2 := eq_true hat.2
  obtain ⟨m1, m2, m3, m4⟩ := z3G (dsc manZ.config)
  have lit : ∀ (H : List AB), inM H (.ag (.i .i64 0 :: .s [] :: (deR.f (dsc deZ) ++ [.ns, .ns]))) = some (0, [], dsc deZ, .ns, .ns, [], []) := fun H => Kkg (JSB _ _) (JSB _ _)
  simp only [KO6, List.cons_append, List.nil_append] at lit
  simp only [JaF, Qv5, Zsz, qtN, qup, simprocAttr, CO.tmps, Opd.tmps, optT, Nat.reducePow, Nat.reduceDiv, Nat.reduceMod, f1, g1', g2', ← hD, hz', g3', hat1, hat2, m1, m2, m3, m4, QZ4, lit, Xwj, ne_eq, not_false_eq_true, decide_true, YUt, Qil, Kho]
  exact Bt.drop _ hh rfl rfl
 have g3' := eq_true g3
 have g3b : (mdec b).2.1 = 0 := by rw [← hD]; exact g3
 obtain ⟨hin, henc, hle, h2⟩ := ZXF g3b
 rw [← hD] at hin henc h2
 have hlen := Zjj b
 rw [← hD] at hlen
 have hE : menc (JcG D.1.kind D.1.title (dsc D.1.config) (D.1.layers.map dsc) (D.1.subs.map dsc)) = (b, 0) := by
  rw [QxL hid, q9d hin (by rw [henc]; exact hle), henc]
 have hEB := eq_true (ZUQ hin)
 have hb0 : b.length ≠ 0 := by rw [← henc]; exact QX1 _
 have hb0' : ((b.length : Int) = 0) = False := eq_false (by omega)
 have rb : ∀ id, rsl Xdk id b = .sl id 0 b.length b.length (some 1) := fun id => by unfold rsl; rw [if_neg hb0]; rfl
 have rb2 : resB Xdk true b = .blk true true (Xdk.cells b) := Y2H hb0
 have gb : ∀ L, ownC L 4 = some (Xdk.cells b) → getS Xdk (h ++ L) (.sl (h.length + 4) 0 b.length b.length (some 1)) = some b := fun L q => (KXN q (by unfold maxLen; omega)).get
 obtain ⟨m1, m2, m3, m4⟩ := z3G (dsc D.1.config)
 have ll1 := eq_true hlen.1
 have ll2 := eq_true hlen.2
 obtain ⟨tb, rfl⟩ : ∃ tb : UInt8, t = (tb.toNat : Int) := ⟨UInt8.ofNat t.toNat, by
  have : (UInt8.ofNat t.toNat).toNat = t.toNat := by rw [UInt8.toNat_ofNat']; exact Nat.mod_eq_of_lt (by omega)
  omega⟩
 by_cases g4 : tb = 0
 ·have g4' : ((tb.toNat : Int) = 0) = True := eq_true (by rw [g4]; rfl)
  simp only [JaF, Qv5, Zsz, qtN, qup, simprocAttr, CO.tmps, Opd.tmps, optT, Nat.reducePow, Nat.reduceDiv, Nat.reduceMod, f1, g1', g2', ← hD, g3', hE, hEB, hb0', qm4, rb, rb2, gb, ll1, ll2, g4', iml, m1, m2, m3, m4, ne_eq, not_true_eq_false, not_false_eq_true, eq_self, decide_true, decide_false, YUt, Qil, QYE, Kho, Kf7]
  exact Bt.drop _ hh rfl rfl
 have g4' : ((tb.toNat : Int) = 0) = False := eq_false fun q => g4 (UInt8.toNat_inj.1 (by have : (0 : UInt8).toNat = 0 := rfl; omega))
 obtain ⟨n, hn⟩ : ∃ n : Nat, a % (b.length : Int) = (n : Int) := ⟨(a % (b.length : Int)).toNat, (Int.toNat_of_nonneg (Int.emod_nonneg _ (by omega))).symm⟩
 have hnl : n < b.length := by have := Int.emod_lt_of_pos a (show (0 : Int) < b.length by omega); omega
 have p1 := eq_true ha.1
 have p2 := eq_true ha.2
 have p3 : (-9223372036854775808 ≤ (b.length : Int)) = True := eq_true (by omega)
 have p4 : ((b.length : Int) ≤ 9223372036854775807) = True := eq_true (by omega)
 have p5 : ((b.length : Int) ≤ 0) = False := eq_false (by omega)
 have p6 : ((n : Int) < (b.length : Int)) = True := eq_true (by omega)
 obtain ⟨b', hb'⟩ : ∃ b', b' = b.set n (b[n] ^^^ tb) := ⟨_, rfl⟩
 have hbl : b'.length = b.length := by rw [hb', List.length_set]
 have hne : b' ≠ b := by rw [hb']; exact Zlw hnl g4
 have cn : (Xdk.cells b)[n]? = some (u8A b[n]) := by rw [Yq3, List.getElem?_map, List.getElem?_eq_getElem hnl]; rfl
 have cl : n + 1 ≤ (Xdk.cells b).length := by rw [Xdk.cells_len, Xcw]; omega
 have cl' := eq_true cl
 have ov : over (Xdk.cells b) n [u8A (b[n] ^^^ tb)] = Xdk.cells b' := by rw [hb']; exact YMu b hnl _
 have gb2 : ∀ L, ownC L 4 = some (Xdk.cells b') → getS Xdk (h ++ L) (.sl (h.length + 4) 0 b.length b.length (some 1)) = some b' := fun L q => by
  rw [← hbl]
  exact (KXN q (by unfold maxLen; omega)).get
 have bx : ∀ x : UInt8, binV .xor (u8A x) (.i .u8 (tb.toNat : Int)) = some (u8A (x ^^^ tb)) := fun x => QKY x tb
 have hot := zel g3b hne
 have hid2 := Jsa b'
 have hlen2 := Zjj b'
 obtain ⟨D', hD'⟩ : ∃ D', D' = mdec b' := ⟨_, rfl⟩
 rw [← hD'] at hid2 hlen2 hot
 rw [← hD] at hot
 have iml2 : ∀ (H : List AB) (l s : AV), getS deR H l = some (D'.1.layers.map dsc) → getS deR H s = some (D'.1.subs.map dsc) → inM H (.ag (.i .i64 D'.1.kind :: .s D'.1.title :: (deR.f (dsc D'.1.config) ++ [l, s]))) = some (D'.1.kind, D'.1.title, dsc D'.1.config, l, s, D'.1.layers.map dsc, D'.1.subs.map dsc) := fun H l s q1 q2 => Kkg q1 q2
 obtain ⟨k1, k2, k3, k4⟩ := z3G (dsc D'.1.config)
 have kl1 := eq_true hlen2.1
 have kl2 := eq_true hlen2.2
 have hl2 : (b'.length ≤ 1000000) = True := eq_true (by omega)
 have hk : ∀ a b c d : AV, (MT.key (D'.1.kind, D'.1.title, dsc D'.1.config, a, b, D'.1.layers.map dsc, D'.1.subs.map dsc) = MT.key (D.1.kind, D.1.title, dsc D.1.config, c, d, D.1.layers.map dsc, D.1.subs.map dsc)) = False := fun a b c d => eq_false fun q => hot ((XQm hid2 hid).1 q)
 simp only [JaF, Qv5, Zsz, qtN, qup, simprocAttr, CO.tmps, Opd.tmps, optT, Nat.reducePow, Nat.reduceDiv, Nat.reduceMod, f1, g1', g2', ← hD, g3', hE, hEB, hb0', qm4, rb, rb2, gb, ll1, ll2, g4', iml, m1, m2, m3, m4, p1, p2, p3, p4, p5, p6, hn, cn, cl', ov, bx, gb2, ← hD', iml2, k1, k2, k3, k4, kl1, kl2, hl2, hk, qAI, X3k, q8C, Nat.mul_one, Nat.zero_add, ne_eq, not_true_eq_false, not_false_eq_true, eq_self, decide_true, decide_false, YUt, Qil, QYE, Kho, Kf7, KfG]
 exact Bt.drop _ hh rfl rfl
end Go.Proofs.Ytpoojfnmhnedpaa
end
