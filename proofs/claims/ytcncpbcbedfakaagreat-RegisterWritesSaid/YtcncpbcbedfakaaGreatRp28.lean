/- No condition. -/
import Derived.Test.YtcncpbcbedfakaaGreatRp27
set_option linter.all false
section
namespace Go.Proofs.YtcncpbcbedfakaaGreat
theorem zzN {p : Prop} (h : p) : ¬ ¬ p := fun q => q h
def zzB := And.intro not_false_eq_true (And.intro not_true_eq_false (And.intro @decide_true @decide_false))
theorem zzE (q : Nat → Bool) (x : Int) : (AV.tu [.ag [.ns, .ns, .ns], .i .i64 x]).ok q = true := by simp only [zEu, Xto, XSf, J9P, JoB, ok_i, Bool.and_true]
set_option maxRecDepth 100000
set_option maxHeartbeats 8000000
theorem Xy9 (zs l m : List AV) (k : Nat) (h : zs.length = l.length + m.length) (hk : k = l.length) : over (over zs 0 l) k m = l ++ m := by
 subst hk
 have e1 : (l ++ zs.drop l.length).take l.length = l := List.take_left' rfl
 have e2 : (l ++ zs.drop l.length).drop (l.length + m.length) = [] := List.drop_eq_nil_of_le (by rw [List.length_append, List.length_drop]; omega)
 simp only [over, List.take_zero, List.nil_append, Nat.zero_add, e1, e2, List.append_nil]
def Jwr : List AV → List AB → Option (AV × List AB)
 | [], h => some (.b true, h)
 | _, _ => none
theorem lit1 {h : List AB} (L : List AB) (k : Nat) (x : Hd) (q : ownC L k = some (Qv2.f x)) : getS Qv2 (h ++ L) (.sl (h.length + k) 0 1 1 none) = some [x] :=
 (QYK (r := Qv2) (n := 1) (l := [x]) (by rw [q]; simp [Row.cells]) (by unfold maxLen; simp) (by simp)).get
theorem lit2 {h : List AB} (L : List AB) (k : Nat) (x y : Hd) (q : ownC L k = some (Qv2.f x ++ Qv2.f y)) : getS Qv2 (h ++ L) (.sl (h.length + k) 0 2 2 none) = some [x, y] :=
 (QYK (r := Qv2) (n := 2) (l := [x, y]) (by rw [q]; simp [Row.cells]) (by unfold maxLen; simp) (by simp)).get
theorem Q7B : Spec Tryz.prog 10 Jwr := by
 intro args h v h' e
 unfold Jwr at e
 split at e
 ·cases e
  refine FnAt.c (FnAt.frz0 fun hz => ?_)
  generalize h.map AB.freeze = h at *
  refine FnAt.run (by kernel_rfl) (T := ⟨[⟨34, ZHx, fun _ => []⟩, ⟨32, Y6U, fun _ => []⟩, ⟨31, ZKE, fun _ => []⟩, ⟨35, XiX, fun _ => []⟩, ⟨33, XKO, fun _ => []⟩, ⟨36, YW5, fun _ => []⟩], []⟩) ⟨⟨JLs, qTk, zRK, J6p, KxQ, Keq, trivial⟩, trivial⟩ Tryz.func10 sw10 fun ho hh => ?_
  have l1 := fun (L : List AB) k q => lit1 (h := h) L k ((1, 1), dgB 4) q
  have l2 := fun (L : List AB) k q => lit1 (h := h) L k ((2, 1), dgB 5) q
  have l3 := fun (L : List AB) k q => lit2 (h := h) L k ((1, 1), dgB 4) ((2, 1), dgB 5) q
  have ex1 := eq_true a1
  have ex2 := eq_true a2
  have ex3 := eq_true a3
  have ex4 := eq_true a4
  simp only [x4, x5] at ex1 ex2 ex3 ex4
  have u0 : (0 ≤ maxLen) = True := eq_true (by unfold maxLen; omega)
  have u1 : (1 ≤ maxLen) = True := eq_true (by unfold maxLen; omega)
  have u2 : (2 ≤ maxLen) = True := eq_true (by unfold maxLen; omega)
  have b4 : ((0 : Int) ≤ 4 ∧ (4 : Int) < 256) = True := eq_true (by decide)
  have b5 : ((0 : Int) ≤ 5 ∧ (5 : Int) < 256) = True := eq_true (by decide)
  unfold w10
  simp only [X7f, KtR, YUa, YOR, XuN, simprocAttr, CO.tmps, Opd.tmps, optT, ZHx, Y6U, ZKE, XiX, XKO, YW5, ex1, ex2, ex3, ex4, l1, l2, l3, Z3S, Ycd, z1a, u0, u1, u2, Nat.zero_add, beq_self_eq_true, and_self, eq_self, ne_eq, zzB, b4, b5, r00, r10, r01, r11, m00, m10, m01, m11, nsSl, slSl, zqp, zso, Zcp, qdw, Xy9, Ksn, YiS, List.all_append, List.length_cons, List.length_nil, zN5 hh, X9l hz, Zf1 hz, QwP hz]
  exact Bt.dropB _ hh rfl
 ·cases e
end Go.Proofs.YtcncpbcbedfakaaGreat
end
section
namespace Go.Proofs.YtcncpbcbedfakaaGreat
set_option maxRecDepth 100000
set_option maxHeartbeats 4000000
section
variable {P : Program} {h : List AB} {id n : Nat}
theorem zEv {p : Nat} {fr fr' : List AV} (hid : id < h.length) (x : List AB) (o : Nat) (l : List AV) (ho : o + l.length ≤ n) (hw : WkL fr' fr) : Bt P p fr (h.set id (.blk true true (over (List.replicate n .top) o l)) ++ x) fr' (h.set id (topB n) ++ x) := by
 refine Bt.trans (Bt.wk hw) ?_
 have := Bt.top (P := P) (p := p) (fr := fr') (h := h.set id (.blk true true (over (List.replicate n .top) o l)) ++ x) (id := id) (n := n) (xs := over (List.replicate n .top) o l) (by rw [List.getElem?_append_left (by rw [List.length_set]; exact hid), List.getElem?_set_self hid]) (by rw [Ksn _ _ _ (by simp; omega)]; simp)
 rwa [List.set_append_left _ _ (by rw [List.length_set]; exact hid), List.set_set] at this
theorem qhW {p : Nat} {fr fr' : List AV} {xs : List AV} (hi : h[id]? = some (.blk true true xs)) (hn : xs.length = n) (x : List AB) (hw : WkL fr' fr) : Bt P p fr (h ++ x) fr' (h.set id (topB n) ++ x) := by
 have hid := (List.getElem?_eq_some_iff.1 hi).1
 refine Bt.trans (Bt.wk hw) ?_
 have := Bt.top (P := P) (p := p) (fr := fr') (h := h ++ x) (id := id) (n := n) (xs := xs) (by rw [List.getElem?_append_left hid]; exact hi) hn
 rwa [List.set_append_left _ _ hid] at this
theorem J6Y {p : Nat} {fr : List AV} {H : List AB} (hi : H[id]? = some (topB n)) : Bt P p fr H fr (H.set id .dead) :=
 Bt.less hi (fun _ _ _ _ _ _ => trivial) (fun q => by cases q) (fun q => by cases q)
end
def z6t : List AV := .i .u8 1 :: .i .u8 2 :: .i .u8 3 :: List.replicate 29 (.i .u8 0)
theorem J0a : Spec Tryz.prog 29 (ZQd idR) := by
 intro args h v h' e
 unfold ZQd at e
 split at e
 ·rename_i s
  split at e
  ·rename_i hns
   cases e
   cases s <;> first | (cases hns; done) | skip
   refine FnAt.c (FnAt.run (by kernel_rfl) (T := ⟨[], []⟩) ⟨trivial, trivial⟩ Tryz.func29 sw29 fun ho hh => ?_)
   unfold w29
   simp only [X7f, KtR, YUa, XuN, simprocAttr]
   refine KUy (S := Unit) (fun _ => 0) (fun _ => [.ns] ++ tp 1 ++ [.i .i64 0] ++ tp 10) (fun _ => True) () trivial (by simp only [YUa, XuN, simprocAttr]) fun _ _ => ?_
   simp only [YUa, XuN, simprocAttr, Int.lt_irrefl, false_implies]
   exact Bt.eq rfl (List.append_nil h)
  ·obtain ⟨l, hs, e⟩ := Ksw e
   split at e
   ·rename_i id hid
    split at e
    ·rename_i hc
     cases e
     obtain ⟨h1, h2, h3⟩ := hc
     have hlt := (List.getElem?_eq_some_iff.1 h2).1
     by_cases h0 : l.length = 0
     ·have e2 : h.set id .dead = h := Kxe (by rw [h2]; unfold resB; rw [if_pos h0])
      rw [e2, h1]
      unfold rsl
      rw [if_pos h0]
      refine FnAt.c (FnAt.run (by kernel_rfl) (T := ⟨[], []⟩) ⟨trivial, trivial⟩ Tryz.func29 sw29 fun ho hh => ?_)
      unfold w29
      simp only [X7f, KtR, YUa, XuN, simprocAttr]
      refine KUy (S := Unit) (fun _ => 0) (fun _ => [.sl id 0 0 0 (some 0)] ++ tp 1 ++ [.i .i64 0] ++ tp 10) (fun _ => True) () trivial (by simp only [YUa, XuN, simprocAttr]) fun _ _ => ?_
      simp only [YUa, XuN, simprocAttr, Int.natCast_zero, Int.lt_irrefl, false_implies, lenV]
      exact Bt.eq rfl (List.append_nil h)
     ·rw [h1]
      unfold rsl
      rw [if_neg h0]
      have hb : h[id]? = some (.blk true true (idR.cells l)) := by rw [h2]; unfold resB; rw [if_neg h0]
      refine FnAt.c (FnAt.run (by kernel_rfl) (T := ⟨[], []⟩) ⟨trivial, trivial⟩ Tryz.func29 sw29 fun ho hh => ?_)
      unfold w29
      simp only [X7f, KtR, YUa, XuN, simprocAttr]
      refine QZo (S := Nat) (fun k => l.length - k) (fun k => [.sl id 0 l.length l.length (some idR.sz)] ++ tp 1 ++ [.i .i64 k] ++ tp 10) (fun _ => h.set id (topB (l.length * 32)) ++ []) (fun k => k ≤ l.length) 0 (Nat.zero_le _) (Kh1 hb (idR.cells_len l) (by simp only [YUa, XuN, simprocAttr])) fun k hk => ?_
      by_cases hlk : k < l.length
      ·have g1 : ((k : Int) < (l.length : Int)) = True := eq_true (by omega)
       have e1 : IntKind.i64.wrap ((k : Int) + 1) = ((k + 1 : Nat) : Int) := ZPn (by have : l.length ≤ 1000000 := h3; unfold In64; omega)
       have e3 := XBT (n := l.length * 32) hlt [] (0 + k * 32) 32 z6t rfl rfl (by omega)
       simp only [z6t, X7f, KtR] at e3
       simp only [X7f, KtR, YUa, XuN, simprocAttr, lenV, g1, e1, iadV, hlk, e3, false_implies]
       exact ⟨k + 1, by omega, by dsimp only; omega, XQ2 hlt _ _ (by simp only [List.length_cons, List.length_nil]; omega) (by simp only [YUa, XuN, simprocAttr])⟩
      ·have g1 : ((k : Int) < (l.length : Int)) = False := eq_false (by omega)
       simp only [YUa, XuN, simprocAttr, lenV, g1, false_implies]
       exact Ynk hlt
    ·cases e
   ·cases e
 ·cases e
theorem KJF (h : List AB) : JLm [.ag [.ns, .ns]] h = some (.tu [], h) := rfl
theorem YZe {α : Type} (r : Row α) (id : Nat) (l : List α) : rsl r id l ≠ .ns := fun q => by unfold rsl at q; split at q <;> cases q
theorem zmQ {h : List AB} {v : List Int} {d : Dots} {j k : Nat} (hj : h[j]? = some (resB intR true v)) (hk : h[k]? = some (resB dotR true d)) (hl : v.length ≤ 1000000) (hm : d.length ≤ 1000000) (hne : j ≠ k) (x : List AB) :
  JLm [.ag [rsl intR j v, rsl dotR k d]] (h ++ x) = some (.tu [], (h.set j .dead).set k .dead ++ x) := by
 have lj := (List.getElem?_eq_some_iff.1 hj).1
 have lk := (List.getElem?_eq_some_iff.1 hk).1
 have h1 : (h ++ x)[j]? = some (resB intR true v) := by rw [List.getElem?_append_left lj]; exact hj
 have h2 : (h ++ x)[k]? = some (resB dotR true d) := by rw [List.getElem?_append_left lk]; exact hk
 have g1 : getS intR (h ++ x) (rsl intR j v) = some v := (Qgm h1 (by unfold maxLen; omega)).get
 have g2 : getS dotR (h ++ x) (rsl dotR k d) = some d := (Qgm h2 (by unfold maxLen; omega)).get
 unfold JLm
 split
 ·rename_i q
  simp only [List.cons.injEq, AV.ag.injEq] at q
  exact absurd q.1.1 (YZe _ _ _)
 ·rename_i q
  simp only [List.cons.injEq, AV.ag.injEq, and_true] at q
  obtain ⟨rfl, rfl⟩ := q
  rw [g1, g2]
  simp only [Option.bind_some, Ju5]
  rw [if_pos ⟨rfl, h1, rfl, h2, hne, hl, hm⟩, List.set_append_left _ _ lj, List.set_append_left _ _ (by rw [List.length_set]; exact lk)]
 ·rename_i q1 q2
  first | exact (q2 _ _ rfl).elim | exact (q2 _ _ _ rfl).elim | exact (q2 _ _ _ rfl rfl).elim | exact (q2 _ _ rfl rfl).elim | exact (q1 _ _ rfl rfl).elim | exact (q1 _ _ _ rfl rfl).elim | exact (q2 rfl).elim
open Classical in
noncomputable def YBB : List AV → List AB → Option (AV × List AB)
 | [.ag [.ns, .ns, .ns]], h => some (.tu [], h)
 | [.ag [l, s, t]], h => (getS Qv2 h l).bind fun hs => (getS intR h s).bind fun v => (getS dotR h t).bind fun d => match idOf l, idOf s, idOf t with
   | [i], [j], [k] => if l = rsl Qv2 i hs ∧ h[i]? = some (resB Qv2 true hs) ∧ s = rsl intR j v ∧ h[j]? = some (resB intR true v) ∧ t = rsl dotR k d ∧ h[k]? = some (resB dotR true d) ∧ i ≠ j ∧ i ≠ k ∧ j ≠ k ∧ hs.length ≤ 1000000 ∧ v.length ≤ 1000000 ∧ d.length ≤ 1000000 then some (.tu [], ((h.set i .dead).set j .dead).set k .dead) else none
   | _, _, _ => none
 | _, _ => none
def zmD : List AV := .i .i64 (-7) :: .i .i64 0 :: List.replicate 32 (.i .u8 0)
theorem Kzc : Spec Tryz.prog 15 YBB := by
 intro args h v h' e
 unfold YBB at e
 split at e
 ·cases e
  refine FnAt.c (FnAt.run (by kernel_rfl) (T := ⟨[⟨55, JLm, fun _ => []⟩], []⟩) ⟨⟨zws, trivial⟩, trivial⟩ Tryz.func15 sw15 fun ho hh => ?_)
  unfold w15
  simp only [X7f, KtR, YUa, XuN, simprocAttr]
  refine QZo (S := Unit) (fun _ => 0) (fun _ => tp 1 ++ [.p (h.length + 0) 0, .i .i64 0] ++ tp 16) (fun _ => h ++ [.blk false true [.ns, .ns, .ns]]) (fun _ => True) () trivial (Bt.wk (by simp only [YUa, XuN, simprocAttr])) fun _ _ => ?_
  simp only [YUa, XuN, simprocAttr, Int.lt_irrefl, false_implies, KJF]
  exact Bt.drop _ hh rfl rfl
 ·rename_i l s t hne
  obtain ⟨hs, hl, e⟩ := Ksw e
  obtain ⟨xs, hv, e⟩ := Ksw e
  obtain ⟨ds, hd, e⟩ := Ksw e
  split at e
  ·rename_i i j k hi hj hk
   split at e
   ·rename_i hc
    cases e
    obtain ⟨h1, h2, h3, h4, h5, h6, n1, n2, n3, m1, m2, m3⟩ := hc
    have hlt := (List.getElem?_eq_some_iff.1 h2).1
    subst h3 h5
    refine FnAt.c (FnAt.run (by kernel_rfl) (T := ⟨[⟨55, JLm, fun _ => []⟩], []⟩) ⟨⟨zws, trivial⟩, trivial⟩ Tryz.func15 sw15 fun ho hh => ?_)
    have hdd := JT1 (JT1 (JT1 hh i) j) k
    have fin : ∀ x, Bt Tryz.prog h.length [.tu []] (((h.set i .dead).set j .dead).set k .dead ++ x) [.tu []] (((h.set i .dead).set j .dead).set k .dead) := fun x => by
     have b := Bt.drop (P := Tryz.prog) (v := .tu []) (a := .tu []) x hdd rfl rfl
     rwa [List.length_set, List.length_set, List.length_set] at b
    by_cases h0 : hs.length = 0
    ·have e2 : h.set i .dead = h := Kxe (by rw [h2]; unfold resB; rw [if_pos h0])
     have el : l = .sl i 0 0 0 (some 0) := by rw [h1]; unfold rsl; rw [if_pos h0]
     subst el
     rw [e2] at fin ⊢
     have g2 := zmQ h4 h6 m2 m3 n3
     unfold w15
     simp only [X7f, KtR, YUa, XuN, simprocAttr]
     refine QZo (S := Unit) (fun _ => 0) (fun _ => tp 1 ++ [.p (h.length + 0) 0, .i .i64 0] ++ tp 16) (fun _ => h ++ [.blk false true [.sl i 0 0 0 (some 0), rsl intR j xs, rsl dotR k ds]]) (fun _ => True) () trivial (Bt.wk (by simp only [YUa, XuN, simprocAttr])) fun _ _ => ?_
     simp only [YUa, XuN, simprocAttr, lenV, Int.natCast_zero, Int.lt_irrefl, false_implies, g2]
     exact fin _
    ·have hb : h[i]? = some (.blk true true (Qv2.cells hs)) := by rw [h2]; unfold resB; rw [if_neg h0]
     have el : l = .sl i 0 hs.length hs.length (some Qv2.sz) := by rw [h1]; unfold rsl; rw [if_neg h0]
     subst el
     have lz : (h.set i (topB (hs.length * 34))).length = h.length := List.length_set
     have g2 := zmQ (h := h.set i (topB (hs.length * 34))) (by rw [List.getElem?_set_ne n1]; exact h4) (by rw [List.getElem?_set_ne n2]; exact h6) m2 m3 n3
     have b1 : ∀ x y z, ldV (h.set i (topB (hs.length * 34)) ++ [.blk false true [x, y, z]]) none (.p (h.length + 0) 0) = some x := fun x y z => by
      have := Qpd (h := h.set i (topB (hs.length * 34))) [.blk false true [x, y, z]] 0 0
      rw [lz] at this
      exact this
     have b2 : ∀ x y z, ldV (h.set i (topB (hs.length * 34)) ++ [.blk false true [x, y, z]]) (some 2) (.p (h.length + 0) 1) = some (.ag [y, z]) := fun x y z => by
      have := XJE (h := h.set i (topB (hs.length * 34))) [.blk false true [x, y, z]] 0 1 2
      rw [lz] at this
      exact this
     unfold w15
     simp only [X7f, KtR, YUa, XuN, simprocAttr]
     refine QZo (S := Nat) (fun m => hs.length - m) (fun m => tp 1 ++ [.p (h.length + 0) 0, .i .i64 m] ++ tp 16) (fun _ => h.set i (topB (hs.length * 34)) ++ [.blk false true [.sl i 0 hs.length hs.length (some Qv2.sz), rsl intR j xs, rsl dotR k ds]]) (fun m => m ≤ hs.length) 0 (Nat.zero_le _) (qhW hb (Qv2.cells_len hs) _ (by simp only [YUa, XuN, simprocAttr])) fun m hm => ?_
     by_cases hlk : m < hs.length
     ·have g1 : ((m : Int) < (hs.length : Int)) = True := eq_true (by omega)
      have e1 : IntKind.i64.wrap ((m : Int) + 1) = ((m + 1 : Nat) : Int) := ZPn (by have : hs.length ≤ 1000000 := m1; unfold In64; omega)
      have e3 := fun x => XBT (n := hs.length * 34) hlt x (0 + m * 34) 34 zmD rfl rfl (by omega)
      simp only [zmD, X7f, KtR] at e3
      simp only [X7f, KtR, YUa, XuN, simprocAttr, lenV, g1, e1, iadV, hlk, b1, b2, e3, false_implies]
      exact ⟨m + 1, by omega, by dsimp only; omega, zEv hlt _ _ _ (by simp only [List.length_cons, List.length_nil]; omega) (by simp only [YUa, XuN, simprocAttr])⟩
     ·have g1 : ((m : Int) < (hs.length : Int)) = False := eq_false (by omega)
      simp only [X7f, KtR, YUa, XuN, simprocAttr, lenV, g1, b1, b2, g2, false_implies]
      have e1 : (((h.set i (topB (hs.length * 34))).set j AB.dead).set k AB.dead ++ [AB.blk false true [AV.sl i 0 hs.length hs.length (some Qv2.sz), rsl intR j xs, rsl dotR k ds]])[i]? = some (topB (hs.length * 34)) := by
       rw [List.getElem?_append_left (by rw [List.length_set, List.length_set, List.length_set]; exact hlt), List.getElem?_set_ne (fun q => n2 q.symm), List.getElem?_set_ne (fun q => n1 q.symm), List.getElem?_set_self hlt]
      refine Bt.trans (J6Y e1) ?_
      rw [List.set_append_left _ _ (by rw [List.length_set, List.length_set, List.length_set]; exact hlt), List.set_comm _ _ (fun q => n2 q.symm), List.set_comm _ _ (fun q => n1 q.symm), List.set_set]
      exact fin _
   ·cases e
  ·cases e
 ·cases e
end Go.Proofs.YtcncpbcbedfakaaGreat
end
section
namespace Go.Proofs.YtcncpbcbedfakaaGreat
set_option maxRecDepth 100000
set_option maxHeartbeats 8000000
theorem YAD (h : List AB) : YBB [.ag [.ns, .ns, .ns]] h = some (.tu [], h) := rfl
theorem q33 {h L : List AB} {l : List Hd} {v : List Int} {m : Dots} {i j k : Nat} (hi : ownM Qv2 l L i) (hj : ownM intR v L j) (hk : ownM dotR m L k) (hl : l.length ≤ 1000000) (hv : v.length ≤ 1000000) (hm : m.length ≤ 1000000) (n1 : (i = j) = False) (n2 : (i = k) = False) (n3 : (j = k) = False) :
  YBB [.ag [rsl Qv2 (h.length + i) l, rsl intR (h.length + j) v, rsl dotR (h.length + k) m]] (h ++ L) = some (.tu [], h ++ qd4 (qd4 (qd4 L i) j) k) := by
 have h1 : (h ++ L)[h.length + i]? = some (resB Qv2 true l) := by rw [Qzu]; exact Q6t l L i hi
 have h2 : (h ++ L)[h.length + j]? = some (resB intR true v) := by rw [Qzu]; exact Q6t v L j hj
 have h3 : (h ++ L)[h.length + k]? = some (resB dotR true m) := by rw [Qzu]; exact Q6t m L k hk
 have g1 : getS Qv2 (h ++ L) (rsl Qv2 (h.length + i) l) = some l := (Qgm h1 (by unfold maxLen; omega)).get
 have g2 : getS intR (h ++ L) (rsl intR (h.length + j) v) = some v := (Qgm h2 (by unfold maxLen; omega)).get
 have g3 : getS dotR (h ++ L) (rsl dotR (h.length + k) m) = some m := (Qgm h3 (by unfold maxLen; omega)).get
 have m1 : ¬ i = j := fun q => by rw [q] at n1; simp at n1
 have m2 : ¬ i = k := fun q => by rw [q] at n2; simp at n2
 have m3 : ¬ j = k := fun q => by rw [q] at n3; simp at n3
 unfold YBB
 split
 ·rename_i q
  simp only [List.cons.injEq, AV.ag.injEq] at q
  exact absurd q.1.1 (YZe _ _ _)
 ·rename_i q
  simp only [List.cons.injEq, AV.ag.injEq, and_true] at q
  obtain ⟨rfl, rfl, rfl⟩ := q
  rw [g1, g2, g3]
  simp only [Option.bind_some, Ju5]
  rw [if_pos ⟨rfl, h1, rfl, h2, rfl, h3, by omega, by omega, by omega, hl, hv, hm⟩, X5U, X5U, X5U]
  rw [qIW, qIW, qIW]
 ·rename_i q1 q2
  first | exact (q2 _ _ _ rfl).elim | exact (q2 _ _ _ rfl rfl).elim | exact (q1 _ _ _ rfl rfl).elim
theorem zlX {h : List AB} {v : List Int} {ds : Dots} (hr : YoS v ds) (L : List AB) (k : Nat) (hL : ownC L k = some (intR.cells (fmR v (layR ds)).1)) : getS intR (h ++ L) (.sl (h.length + k) 0 (topI (fmR v (layR ds)).1 16) 16 none) = some (fmO v ds).1 := by
 have inv := JX9 v hr.1 hr.2.1 (fun d hd => hr.2.2 d (QLg ds d hd)) (Nat.le_refl (layR ds).length)
 rw [List.take_length] at inv
 have t1 := ZsX (fmR v (layR ds)).1 16
 exact (QYK hL (by unfold maxLen; omega) (by omega)).get
end Go.Proofs.YtcncpbcbedfakaaGreat
end
section
namespace Go.Proofs.YtcncpbcbedfakaaGreat
set_option maxRecDepth 100000
set_option maxHeartbeats 4000000
theorem X9d {h : List AB} (L : List AB) (k i n sz by_ m : Nat) (ys : List AV) (hb : Kyv L k = true) (hx : (blkX L k).length = n * sz) (hs : sz ≠ 0) (hi : i < n) (hm : n < i + m) (h1 : (i + m) * by_ ≤ 140737488355328) (h2 : i + m ≤ maxLen) :
  appW (h ++ L) true sz by_ (.sl (h.length + k) 0 i n (some sz)) m ys = some (.sl (h.length + L.length) 0 (i + m) (i + m) (some sz), h ++ (qd4 L k ++ [.blk true true ((blkX L k).take (i * sz) ++ ys)])) := by
 have hx2 := Xoi L k hb
 have hlt : i * sz < n * sz := Nat.mul_lt_mul_of_pos_right hi (by omega)
 unfold appW
 dsimp only
 rw [if_neg (by omega : ¬ m = 0), if_neg (by omega), Qzu, hx2]
 simp only [true_and, Nat.zero_add, hx, Nat.le_of_lt hlt, h1, h2, and_self, if_true, reduceCtorEq, if_false, List.drop_zero, List.length_append]
 rw [if_neg (fun q => by omega), if_pos ⟨hs, trivial⟩, X5U, List.set_append_right _ _ (by omega), Nat.add_sub_cancel_left, List.append_assoc]
theorem KU9 {h : List AB} (L : List AB) (k n sz by_ m : Nat) (ys : List AV) (hb : Kyv L k = true) (hx : (blkX L k).length = n * sz) (hm : m ≠ 0) (h1 : (n + m) * by_ ≤ 140737488355328) (h2 : n + m ≤ maxLen) :
  appW (h ++ L) true sz by_ (.sl (h.length + k) 0 n n none) m ys = some (.sl (h.length + L.length) 0 (n + m) (n + m) (some sz), h ++ (L ++ [.blk true true (blkX L k ++ ys)])) := by
 have hx2 := Xoi L k hb
 unfold appW
 dsimp only
 rw [if_neg hm, if_neg (by omega), Qzu, hx2]
 simp only [true_and, Nat.zero_add, hx, Nat.le_refl, h1, h2, and_self, if_true, List.drop_zero, List.length_append]
 rw [List.take_of_length_le (by omega), List.append_assoc]
theorem zi9 (id n i sz : Nat) (hi : i ≤ n) : slL sz (.sl id 0 n n (some sz)) none (some (.i .i64 (i : Int))) none = some (.sl id 0 i n (some sz)) := by
 simp only [slL, bnd, Option.map_some, if_true]
 rw [if_pos (by omega)]
 simp
theorem JxL (id n i sz : Nat) (hi : i < n) : ∃ kk, slL sz (.sl id 0 n n (some sz)) (some (.i .i64 (i : Int))) none none = some (.sl id (i * sz) (n - i) (n - i) kk) ∧ ∀ id2, slL sz (.sl id2 0 n n (some sz)) (some (.i .i64 (i : Int))) none none = some (.sl id2 (i * sz) (n - i) (n - i) kk) := by
 by_cases h0 : i = 0
 ·subst h0
  exact ⟨some sz, by simp [slL, bnd], fun id2 => by simp [slL, bnd]⟩
 ·refine ⟨kcut (some sz) sz, ?_, fun id2 => ?_⟩ <;> simp [slL, bnd, h0, hi] <;> omega
theorem JFG (id n sz : Nat) (hn : n ≠ 0) : slL sz (.sl id 0 n n (some sz)) (some (.i .i64 (n : Int))) none none = some .se := by
 simp [slL, bnd, hn]
theorem Zv7 {h : List AB} (hz : h.map AB.freeze = h) {l s t : AV} {hs : List Hd} {xs : List Int} {ds : Dots} (hl : Rd Qv2 h l hs) (hv : Rd intR h s xs) (hd : Rd dotR h t ds) (hL : hs.length ≤ 100000) (v : AV) (h' : List AB) (e : XGJ [.ag [l, s, t]] h = some (v, h')) :
  FnAt Tryz.prog 24 [.ag [l, s, t]] h v h' := by
 simp only [XGJ, hl.get, hv.get, hd.get, Option.bind_some] at e
 rw [if_pos hL] at e
 refine FnAt.run (by kernel_rfl) (T := ⟨[⟨28, Q1i, fun _ => []⟩, ⟨69, X0l, fun _ => []⟩], []⟩) ⟨⟨ZYN, QQX, trivial⟩, trivial⟩ Tryz.func24 sw24 fun ho hh => ?_
 simp only [Xto, J9P, Bool.and_eq_true] at ho
 have f1 := hl.fx ho.1.1 (sz := 34) rfl
 have f2 := hv.fx ho.1.2.1 (sz := 1) rfl
 have f3 := hd.fx ho.1.2.2.1 (sz := 2) rfl
 have f7 := QfD hl
 have mm : ∀ v : AV, v.ok (fun i => decide (i < h.length)) = true → ∀ c, v.ok (fun i => decide (i < h.length + c)) = true := fun v q c => AV.ok_mono (fun i q => by simp only [decide_eq_true_eq] at q ⊢; omega) v q
 have fo1 := mm _ ho.1.1
 have fo2 := mm _ ho.1.2.1
 have fo3 := mm _ ho.1.2.2.1
 have rr : ∀ v : AV, v.ok (fun i => decide (i < h.length)) = true → ∀ sel, Wk (v.ren (selN h.length sel)) v := fun v q sel => Wk.ren (fun i hi => q8q hi) q
 have fr1 := rr _ ho.1.1
 have fr2 := rr _ ho.1.2.1
 have fr3 := rr _ ho.1.2.2.1
 unfold w24
 by_cases c0 : KwI hs xs ds = 0
 case neg =>
  rw [if_neg c0] at e
  cases e
  have c0' := eq_false c0
  simp only [X7f, KtR, YUa, YOR, XuN, simprocAttr, CO.tmps, Opd.tmps, optT, f1, f2, f3]
  refine QZo (S := Unit) (fun _ => 0) (fun _ => tp 1 ++ [.p (h.length + 0) 0] ++ tp 1 ++ [.ns, .i .i64 0] ++ tp 58) (fun _ => h ++ [.blk false true [l, s, t]]) (fun _ => True) () trivial (Bt.wk (by simp only [YUa, XuN, simprocAttr])) fun _ _ => ?_
  by_cases h0 : (0 : Int) < (hs.length : Int)
  ·have h0' := eq_true h0
   simp only [YUa, YOR, XuN, simprocAttr, CO.tmps, Opd.tmps, optT, f1, f2, f3, Q1i, c0', h0', zN5 hh, X9l hz, Zf1 hz, QwP hz, ne_eq, zzB]
   exact Bt.drop _ hh rfl rfl
  ·have h0' := eq_false h0
   simp only [YUa, YOR, XuN, simprocAttr, CO.tmps, Opd.tmps, optT, f1, f2, f3, Q1i, c0', h0', zN5 hh, X9l hz, Zf1 hz, QwP hz, ne_eq, zzB]
   exact Bt.drop _ hh rfl rfl
 rw [if_pos c0] at e
 cases e
 simp only [X7f, KtR, YUa, YOR, XuN, simprocAttr, CO.tmps, Opd.tmps, optT, f1, f2, f3]
 refine QZo (S := Nat × List Dg) (fun σ => hs.length - σ.1) (fun σ => tp 1 ++ [.p (h.length + 0) 0] ++ tp 1 ++ [apS idR (h.length + 1) σ.2, .i .i64 (σ.1 : Nat)] ++ tp 58) (fun σ => h ++ [.blk false true [l, s, t], resB idR true σ.2]) (fun σ => σ.1 ≤ hs.length ∧ InsI hs σ.1 σ.2) (0, []) ⟨Nat.zero_le _, InsI.zero hs⟩ ?_ fun σ hσ => ?_
 ·show Bt _ _ _ _ _ (h ++ ([.blk false true [l, s, t]] ++ List.replicate 1 .dead))
  rw [← List.append_assoc]
  refine Bt.trans (Bt.wk ?_) (Bt.pad _ _ 1)
  show WkL (tp 1 ++ [.p (h.length + 0) 0] ++ tp 1 ++ [.ns, .i .i64 (0 : Nat)] ++ tp 58) _
  simp only [YUa, XuN, simprocAttr]
 obtain ⟨k, c⟩ := σ
 obtain ⟨hk, hI⟩ := hσ
 dsimp only at hk hI ⊢
 have hcl := hI.2.2
 by_cases g1 : k < hs.length
 case neg =>
  obtain rfl : k = hs.length := by omega
  have g1' := eq_false g1
  have hfin := hI.fin
  subst hfin
  simp only [YUa, YOR, XuN, simprocAttr, CO.tmps, Opd.tmps, optT, f1, f2, f3, g1', Q1i, zN5 hh, X9l hz, Zf1 hz, QwP hz, ne_eq, zzB]
  refine Bt.trans (Bt.wk1 (qEA _ _)) ?_
  exact Bt.sel [1] hh (by decide) (by simp only [qpr, FrSel, BlkSel, AV.ren, renL, AV.ok, okL, Option.some.injEq, exists_eq_left', List.length_cons, List.length_nil, Nat.reduceAdd, Nat.reduceLT, reduceCtorEq, implies_true, exists_eq']) (by simp only [qpr, FrSel, BlkSel, AV.ren, renL, AV.ok, okL, Option.some.injEq, exists_eq_left', List.length_cons, List.length_nil, Nat.reduceAdd, Nat.reduceLT, reduceCtorEq, implies_true, exists_eq'])
 have g1' := eq_true g1
 have ek : IntKind.i64.wrap ((k : Int) + 1) = ((k + 1 : Nat) : Int) := ZPn (by unfold In64; omega)
 obtain ⟨X, hX⟩ : ∃ X, (hs.getD k Qv2.d).2 = X := ⟨_, rfl⟩
 have hsame := fun {i : Nat} (hi : i < c.length) (e : c.getD i idR.d = X) => hI.same g1 hi (e.trans hX.symm)
 have hlay := fun {i : Nat} (hi : i ≤ c.length) => hI.lay g1 hi
 rw [hX] at hlay
 simp only [YUa, YOR, XuN, simprocAttr, CO.tmps, Opd.tmps, optT, f1, f2, f3, Q1i, X0l, zJO, c0, Zpc, XRx, JUv, Q40, Jmb, Y6p, qdw, List.length_cons, List.length_nil, zN5 hh, X9l hz, Zf1 hz, QwP hz, ne_eq, zzB, f7, g1', hX]
 refine QZo (S := Nat) (fun i => c.length - i) (fun i => tp 1 ++ [.p (h.length + 0) 0] ++ tp 1 ++ [apS idR (h.length + 1) c, .i .i64 k, .p (h.length + 2) 0, .i .i64 i] ++ tp 56) (fun _ => h ++ [.blk false true [l, s, t], resB idR true c, .blk true true (idR.f X)]) (fun i => i ≤ c.length ∧ ∀ j, j < i → JF6 (c.getD j idR.d) X) 0 ⟨Nat.zero_le _, fun j hj => by omega⟩ (Bt.wk (by simp only [YUa, XuN, simprocAttr])) fun i hi => ?_
 obtain ⟨hi, hlt⟩ := hi
 by_cases g2 : i < c.length
 ·have hlc : c.length ≠ 0 := by omega
  have g2' : ((i : Int) < (c.length : Int)) = True := eq_true (by omega)
  have g2n := eq_true g2
  have g3 : ((i : Int) = (c.length : Int)) = False := eq_false (by omega)
  have ei : IntKind.i64.wrap ((i : Int) + 1) = ((i + 1 : Nat) : Int) := ZPn (by unfold In64; omega)
  have gr : ∀ id, apS idR id c = rsl idR id c := fun id => ZtQ _ hlc
  have ia := fun (id : Nat) (m : Int) => qmW (r := idR) (sz := 32) rfl id c .i64 m
  have ld := fun (L : List AB) (k : Nat) e => YY4 (r := idR) (h := h) (sz := 32) rfl L k c i e g2
  have okE := fun (q : Nat → Bool) (id : Nat) hq => Ki0 (r := idR) q id 32 i 0 c hq
  by_cases q : cmpG (c.getD i idR.d) X < 0
  ·have q' := eq_true q
   simp only [YUa, YOR, XuN, simprocAttr, CO.tmps, Opd.tmps, optT, f1, f2, f3, Q1i, X0l, zJO, c0, Zpc, XRx, JUv, Q40, Jmb, Y6p, qdw, List.length_cons, List.length_nil, zN5 hh, X9l hz, Zf1 hz, QwP hz, ne_eq, zzB, gr, ia, ld, okE, g2', g2n, q', ei, Int.toNat_natCast]
   exact ⟨i + 1, ⟨g2, fun j hj => by
    rcases Nat.lt_or_ge j i with w | w
    ·exact hlt j w
    ·obtain rfl : j = i := by omega
     exact q⟩, by dsimp only; omega, Bt.wk (by simp only [YUa, XuN, simprocAttr])⟩
  ·have q' := eq_false q
   by_cases q2 : c.getD i idR.d = X
   ·have q2' := eq_true q2
    simp only [YUa, YOR, XuN, simprocAttr, CO.tmps, Opd.tmps, optT, f1, f2, f3, Q1i, X0l, zJO, c0, Zpc, XRx, JUv, Q40, Jmb, Y6p, qdw, List.length_cons, List.length_nil, zN5 hh, X9l hz, Zf1 hz, QwP hz, ne_eq, zzB, gr, ia, ld, okE, g2', g2n, q', g3, q2', ek, Int.toNat_natCast]
    refine ⟨(k + 1, c), ⟨g1, hsame g2 q2⟩, by dsimp only; omega, ?_⟩
    dsimp only
    rw [gr]
    exact Bt.sel [0, 1] hh (by decide) (by simp only [qpr, FrSel, BlkSel, AV.ren, renL, AV.ok, okL, Option.some.injEq, exists_eq_left', List.length_cons, List.length_nil, Nat.reduceAdd, Nat.reduceLT, reduceCtorEq, implies_true, exists_eq', fo1, fo2, fo3, fr1, fr2, fr3]) (by simp only [qpr, FrSel, BlkSel, AV.ren, renL, AV.ok, okL, Option.some.injEq, exists_eq_left', List.length_cons, List.length_nil, Nat.reduceAdd, Nat.reduceLT, reduceCtorEq, implies_true, exists_eq', fo1, fo2, fo3, fr1, fr2, fr3])
   ·have q2' := eq_false q2
    have hn := hlay hi hlt fun _ => ⟨q, q2⟩
    have k8 : (idR.cells c).length = c.length * 32 := idR.cells_len c
    have rB : resB idR true c = .blk true true (idR.cells c) := by unfold resB; rw [if_neg hlc]
    have gs : ∀ id, rsl idR id c = .sl id 0 c.length c.length (some 32) := fun id => by unfold rsl; rw [if_neg hlc]; rfl
    have s1 := fun id => zi9 id c.length i 32 hi
    obtain ⟨kk, _, s2⟩ := JxL 0 c.length i 32 g2
    have n0 : (c.length - i = 0) = False := eq_false (by omega)
    have w1 : (i * 32 + (c.length - i) * 32 ≤ c.length * 32) = True := eq_true (by omega)
    have w2 : (0 + (1 + (c.length - i)) * 32 ≤ 32 + ((c.length - i) * 32)) = True := eq_true (by omega)
    have c1 : (idR.cells c).drop (i * 32) = idR.cells (c.drop i) := by exact idR.cells_drop c i
    have kd : (idR.cells (c.drop i)).length = (c.length - i) * 32 := by rw [← c1, List.length_drop, k8]; omega
    have tk : (List.drop (i * 32) (idR.cells c)).take ((c.length - i) * 32) = idR.cells (c.drop i) := by
     rw [c1]
     exact List.take_of_length_le (by rw [kd]; exact Nat.le_refl _)
    have tk2 : (idR.f X ++ idR.cells (c.drop i)).take ((1 + (c.length - i)) * 32) = idR.f X ++ idR.cells (c.drop i) := List.take_of_length_le (by rw [List.length_append, JUv, kd]; omega)
    have ya : (idR.cells (c.drop i)).all (wrOk true) = true := QBe XRx _
    have n1 : (1 + (c.length - i) = 0) = False := eq_false (by omega)
    have w3 : ((1 + (c.length - i)) * 32 ≤ 32 + (c.length - i) * 32) = True := eq_true (by omega)
    have ap1 := fun (L : List AB) k ys hb hx => KU9 (h := h) L k 1 32 32 (c.length - i) ys hb hx (by omega) (by omega) (by unfold maxLen; omega)
    have ap2 := fun (L : List AB) k ys hb hx => X9d (h := h) L k i c.length 32 32 (1 + (c.length - i)) ys hb hx (by decide) g2 (by omega) (by omega) (by unfold maxLen; omega)
    simp only [YUa, YOR, XuN, simprocAttr, CO.tmps, Opd.tmps, optT, f1, f2, f3, Q1i, X0l, zJO, c0, Zpc, XRx, JUv, Q40, Jmb, Y6p, qdw, List.length_cons, List.length_nil, zN5 hh, X9l hz, Zf1 hz, QwP hz, ne_eq, zzB, gr, ia, ld, okE, g2', g2n, q', g3, q2', Int.toNat_natCast]
    simp only [YUa, YOR, XuN, simprocAttr, CO.tmps, Opd.tmps, optT, f1, f2, f3, Q1i, X0l, zJO, c0, Zpc, XRx, JUv, Q40, Jmb, Y6p, qdw, List.length_cons, List.length_nil, zN5 hh, X9l hz, Zf1 hz, QwP hz, ne_eq, zzB, gs, ek, s1, s2, rB, k8, n0, w1, w2, ap1, ap2, kd, tk, tk2, ya, n1, w3, Nat.zero_add, List.length_append, List.all_append, Bool.and_self, qLV, zn9, Zfd, ZBB]
    refine ⟨(k + 1, c.take i ++ X :: c.drop i), ⟨g1, hn⟩, by dsimp only; omega, ?_⟩
    dsimp only
    have el : (c.take i ++ X :: c.drop i).length = i + (1 + (c.length - i)) := by rw [List.length_append, List.length_cons, List.length_take, List.length_drop]; omega
    have eA : ∀ id, apS idR id (c.take i ++ X :: c.drop i) = .sl id 0 (i + (1 + (c.length - i))) (i + (1 + (c.length - i))) (some 32) := fun id => by
     unfold apS
     rw [el, if_neg (by omega)]
     rfl
    have eB : resB idR true (c.take i ++ X :: c.drop i) = .blk true true ((idR.cells c).take (i * 32) ++ (idR.f X ++ idR.cells (c.drop i))) := by
     unfold resB
     rw [el, if_neg (by omega), show (idR.cells c).take (i * 32) = idR.cells (c.take i) from idR.cells_take c i]
     simp [Row.cells]
    rw [eA, eB]
    exact Bt.sel [0, 5] hh (by decide) (by simp only [qpr, FrSel, BlkSel, AV.ren, renL, AV.ok, okL, Option.some.injEq, exists_eq_left', List.length_cons, List.length_nil, Nat.reduceAdd, Nat.reduceLT, reduceCtorEq, implies_true, exists_eq', fo1, fo2, fo3, fr1, fr2, fr3]) (by simp only [qpr, FrSel, BlkSel, AV.ren, renL, AV.ok, okL, Option.some.injEq, exists_eq_left', List.length_cons, List.length_nil, Nat.reduceAdd, Nat.reduceLT, reduceCtorEq, implies_true, exists_eq', fo1, fo2, fo3, fr1, fr2, fr3])
 ·obtain rfl : i = c.length := by omega
  have hn := hlay hi hlt fun w => absurd w g2
  rw [List.take_length, List.drop_length] at hn
  by_cases hB : c = []
  ·subst hB
   have z3 : (1 * 32 ≤ 140737488355328 ∧ 1 ≤ maxLen) = True := eq_true ⟨by decide, by unfold maxLen; omega⟩
   have s0 : slL 32 .ns none (some (.i .i64 0)) none = some .ns := by simp [slL, bnd]
   have s1 : slL 32 .ns (some (.i .i64 0)) none none = some .ns := by simp [slL, bnd]
   have q2 : ∀ H, srcV H 32 .ns = some (0, []) := fun H => rfl
   simp only [YUa, YOR, XuN, simprocAttr, CO.tmps, Opd.tmps, optT, f1, f2, f3, Q1i, X0l, zJO, c0, Zpc, XRx, JUv, Q40, Jmb, Y6p, qdw, List.length_cons, List.length_nil, zN5 hh, X9l hz, Zf1 hz, QwP hz, ne_eq, zzB, s0, s1, q2, YyU, qY6, List.length_nil, Int.natCast_zero, Int.lt_irrefl, z3, ek, zso, XXW]
   refine ⟨(k + 1, [X]), ⟨g1, hn⟩, by dsimp only; omega, ?_⟩
   dsimp only
   simp only [QT8, zHP]
   exact Bt.sel [0, 4] hh (by decide) (by simp only [qpr, FrSel, BlkSel, AV.ren, renL, AV.ok, okL, Option.some.injEq, exists_eq_left', List.length_cons, List.length_nil, Nat.reduceAdd, Nat.reduceLT, reduceCtorEq, implies_true, exists_eq', fo1, fo2, fo3, fr1, fr2, fr3]) (by simp only [qpr, FrSel, BlkSel, AV.ren, renL, AV.ok, okL, Option.some.injEq, exists_eq_left', List.length_cons, List.length_nil, Nat.reduceAdd, Nat.reduceLT, reduceCtorEq, implies_true, exists_eq', fo1, fo2, fo3, fr1, fr2, fr3, qYM])
  ·have hlc : c.length ≠ 0 := fun w => hB (List.eq_nil_of_length_eq_zero w)
   have gr : ∀ id, apS idR id c = rsl idR id c := fun id => ZtQ _ hlc
   have k8 : (idR.cells c).length = c.length * 32 := idR.cells_len c
   have rB : resB idR true c = .blk true true (idR.cells c) := by unfold resB; rw [if_neg hlc]
   have gs : ∀ id, rsl idR id c = .sl id 0 c.length c.length (some 32) := fun id => by unfold rsl; rw [if_neg hlc]; rfl
   have s1 := fun id => zi9 id c.length c.length 32 (Nat.le_refl _)
   have s2 := fun id => JFG id c.length 32 hlc
   have ap2 := fun (L : List AB) k ys hb hx => Ywh (h := h) L k c.length 32 32 1 ys hb hx (by decide) (by decide) (by omega) (by unfold maxLen; omega)
   simp only [YUa, YOR, XuN, simprocAttr, CO.tmps, Opd.tmps, optT, f1, f2, f3, Q1i, X0l, zJO, c0, Zpc, XRx, JUv, Q40, Jmb, Y6p, qdw, List.length_cons, List.length_nil, zN5 hh, X9l hz, Zf1 hz, QwP hz, ne_eq, zzB, gr, Int.lt_irrefl]
   have q1 : ∀ q, AV.se.ok q = true := fun q => by simp [AV.ok]
   have q2 : ∀ H, srcV H 32 .se = some (0, []) := fun H => rfl
   simp only [YUa, YOR, XuN, simprocAttr, CO.tmps, Opd.tmps, optT, f1, f2, f3, Q1i, X0l, zJO, c0, Zpc, XRx, JUv, Q40, Jmb, Y6p, qdw, List.length_cons, List.length_nil, zN5 hh, X9l hz, Zf1 hz, QwP hz, ne_eq, zzB, gs, ek, s1, s2, rB, k8, ap2, XXW, q1, q2, YyU, qLV, zn9, Zfd, ZBB]
   refine ⟨(k + 1, c ++ [X]), ⟨g1, hn⟩, by dsimp only; omega, ?_⟩
   dsimp only
   simp only [zfM, XJF]
   exact Bt.sel [0, 4] hh (by decide) (by simp only [qpr, FrSel, BlkSel, AV.ren, renL, AV.ok, okL, Option.some.injEq, exists_eq_left', List.length_cons, List.length_nil, Nat.reduceAdd, Nat.reduceLT, reduceCtorEq, implies_true, exists_eq', fo1, fo2, fo3, fr1, fr2, fr3]) (by simp only [qpr, FrSel, BlkSel, AV.ren, renL, AV.ok, okL, Option.some.injEq, exists_eq_left', List.length_cons, List.length_nil, Nat.reduceAdd, Nat.reduceLT, reduceCtorEq, implies_true, exists_eq', fo1, fo2, fo3, fr1, fr2, fr3, qYM])
theorem Y4y : Spec Tryz.prog 24 XGJ := by
 intro args h v h' e
 unfold XGJ at e
 split at e
 ·rename_i l s t
  obtain ⟨hs, hl, e⟩ := Ksw e
  obtain ⟨xs, hv, e⟩ := Ksw e
  obtain ⟨ds, hd, e⟩ := Ksw e
  split at e
  ·rename_i hL
   split at e
   ·rename_i c
    cases e
    refine FnAt.c (FnAt.frz fun hz => Zv7 hz hl.frz hv.frz hd.frz hL _ _ ?_)
    simp only [XGJ, hl.frz.get, hv.frz.get, hd.frz.get, Option.bind_some, List.length_map]
    rw [if_pos hL, if_pos c]
   ·rename_i c
    cases e
    refine FnAt.c (FnAt.frz0 fun hz => Zv7 hz hl.frz hv.frz hd.frz hL _ _ ?_)
    simp only [XGJ, hl.frz.get, hv.frz.get, hd.frz.get, Option.bind_some]
    rw [if_pos hL, if_neg c]
  ·cases e
 ·cases e
theorem qTD : Spec Tryz.prog 26 z82 := by
 intro args h v h' e
 unfold z82 at e
 split at e
 ·rename_i l s t
  obtain ⟨hs, hl, e⟩ := Ksw e
  obtain ⟨xs, hv, e⟩ := Ksw e
  obtain ⟨ds, hd, e⟩ := Ksw e
  split at e
  ·rename_i hL
   cases e
   refine FnAt.c (FnAt.run (by kernel_rfl) (T := ⟨[⟨24, XGJ, fun _ => []⟩], []⟩) ⟨⟨Y4y, trivial⟩, trivial⟩ Tryz.func26 sw26 fun ho hh => ?_)
   simp only [Xto, J9P, Bool.and_eq_true] at ho
   have f1 := hl.fx ho.1.1 (sz := 34) rfl
   have f2 := hv.fx ho.1.2.1 (sz := 1) rfl
   have f3 := hd.fx ho.1.2.2.1 (sz := 2) rfl
   have hL' := eq_true hL
   unfold w26
   by_cases c : KwI hs xs ds = 0
   ·simp only [X7f, KtR, YUa, XuN, simprocAttr, f1, f2, f3, XGJ, c, hL']
    exact Bt.dropB _ hh (decide_eq_decide.2 (by constructor <;> intro q <;> first | exact ⟨trivial, by omega⟩ | omega))
   ·have c' := eq_false c
    simp only [X7f, KtR, YUa, XuN, simprocAttr, f1, f2, f3, XGJ, c', hL']
    exact Bt.dropB _ hh (by simp)
  ·cases e
 ·cases e
end Go.Proofs.YtcncpbcbedfakaaGreat
end
section
namespace Go.Proofs.YtcncpbcbedfakaaGreat
set_option maxRecDepth 100000
set_option maxHeartbeats 4000000
noncomputable def YQP : List AV → List AB → Option (AV × List AB)
 | [a], h => (getS dotR h a).bind fun xs => if xs.length = 0 then some (.sl h.length 0 0 0 none, h ++ [.blk true true []]) else none
 | _, _ => none
theorem qgK : Spec Tryz.prog 57 YQP := by
 intro args h v h' e
 unfold YQP at e
 split at e
 ·rename_i a
  obtain ⟨xs, hs, e⟩ := Ksw e
  split at e
  ·rename_i h0
   cases e
   refine FnAt.c (FnAt.run (by kernel_rfl) (T := ⟨[], []⟩) ⟨trivial, trivial⟩ Tryz.func57 sw57 fun ho hh => ?_)
   simp only [Xto, Bool.and_eq_true] at ho
   have f1 := hs.fx ho.1 (sz := 2) rfl
   have u1 := hs.src (sz := 2) rfl
   have hx : xs = [] := List.eq_nil_of_length_eq_zero h0
   subst hx
   unfold w57
   simp only [X7f, KtR, YUa, XuN, simprocAttr, f1, u1, z0C, List.length_nil]
   exact Bt.eq rfl rfl
  ·cases e
 ·cases e
noncomputable def XJQ : List AV → List AB → Option (AV × List AB)
 | [.ag [l, s, t], .ag [.i .i64 a, .i .i64 b], x, .ag [s', t']], h => (getS Qv2 h l).bind fun hs => (getS intR h s).bind fun v => (getS dotR h t).bind fun ds => (getS intR h s').bind fun v' => (getS dotR h t').bind fun ds' => (getI x).bind fun i =>
   if hs.length ≤ 100000 then
    if wrE hs v ds (a, b) v' ds' ≠ 0 then some (.tu [.ag [.ns, .ns, .ns], .i .i64 (wrE hs v ds (a, b) v' ds')], h)
    else some (.tu [.ag [rsl Qv2 h.length (wrL hs v' ds' ((a, b), i)), .sl (h.length + 1) 0 (topI (fmR (Zjt v v' ds ds').1 (layR ((Zjt v v' ds ds').2 ++ [(a, b)]))).1 16) 16 none, rsl dotR (h.length + 2) (fmR (Zjt v v' ds ds').1 (layR ((Zjt v v' ds ds').2 ++ [(a, b)]))).2], .i .i64 0],
     h ++ [resB Qv2 true (wrL hs v' ds' ((a, b), i)), .blk true true (intR.cells (fmR (Zjt v v' ds ds').1 (layR ((Zjt v v' ds ds').2 ++ [(a, b)]))).1), resB dotR true (fmR (Zjt v v' ds ds').1 (layR ((Zjt v v' ds ds').2 ++ [(a, b)]))).2])
   else none
 | _, _ => none
noncomputable def TW (cp : List AV → List AB → Option (AV × List AB)) : Env := ⟨[⟨28, Q1i, fun _ => []⟩, ⟨61, Ype, fun _ => []⟩, ⟨62, YcP, fun _ => []⟩, ⟨52, JH2, fun _ => []⟩, ⟨54, ZWR, fun _ => []⟩, ⟨57, cp, fun _ => []⟩, ⟨63, qk8, fun _ => []⟩, ⟨64, zJ7, fun _ => []⟩, ⟨53, ZWx, fun _ => []⟩], []⟩
theorem ofHd (a b : Int) (i : Dg) : (AV.i .i64 a :: AV.i .i64 b :: idR.f i) = Qv2.f ((a, b), i) := (Xjz ((a, b), i)).symm
theorem Kot {h : List AB} (hz : h.map AB.freeze = h) {l s t s' t' : AV} {a b : Int} {i : Dg} {hs : List Hd} {xs xs' : List Int} {ds ds' : Dots} (hl : Rd Qv2 h l hs) (hv : Rd intR h s xs) (hd : Rd dotR h t ds) (hv' : Rd intR h s' xs') (hd' : Rd dotR h t' ds') (hL : hs.length ≤ 100000) (v : AV) (h' : List AB) (e : XJQ [.ag [l, s, t], .ag [.i .i64 a, .i .i64 b], .ag (idR.f i), .ag [s', t']] h = some (v, h')) :
  FnAt Tryz.prog 19 [.ag [l, s, t], .ag [.i .i64 a, .i .i64 b], .ag (idR.f i), .ag [s', t']] h v h' := by
 simp only [XJQ, hl.get, hv.get, hd.get, hv'.get, hd'.get, zJO, Option.bind_some] at e
 rw [if_pos hL] at e
 obtain ⟨cp, hcp, hcs⟩ : ∃ cp, (((Zjt xs xs' ds ds').2.length = 0 ∧ cp = YQP) ∨ ((Zjt xs xs' ds ds').2.length ≠ 0 ∧ cp = ZvX)) ∧ Spec Tryz.prog 57 cp := by
  by_cases h0 : (Zjt xs xs' ds ds').2.length = 0
  ·exact ⟨_, .inl ⟨h0, rfl⟩, qgK⟩
  ·exact ⟨_, .inr ⟨h0, rfl⟩, Qzh⟩
 refine FnAt.run (by kernel_rfl) (T := TW cp) ⟨⟨ZYN, zLB, K0x, Zsq, JMp, hcs, zcX, J97, ZtO, trivial⟩, trivial⟩ Tryz.func19 sw19 fun ho hh => ?_
 simp only [Xto, J9P, Bool.and_eq_true] at ho
 have f1 := hl.fx ho.1.1 (sz := 34) rfl
 have f2 := hv.fx ho.1.2.1 (sz := 1) rfl
 have f3 := hd.fx ho.1.2.2.1 (sz := 2) rfl
 have f4 := hv'.fx ho.2.2.2.1.1 (sz := 1) rfl
 have f5 := hd'.fx ho.2.2.2.1.2.1 (sz := 2) rfl
 unfold w19
 by_cases c0 : KwI hs xs ds = 0
 case neg =>
  have g := eq_false c0
  have we : wrE hs xs ds (a, b) xs' ds' = KwI hs xs ds := by
   unfold wrE
   rw [if_pos c0]
  rw [if_pos (show wrE hs xs ds (a, b) xs' ds' ≠ 0 from by rw [we]; first | assumption | decide), we] at e
  cases e
  simp only [X7f, KtR, YUa, YOR, XuN, simprocAttr, CO.tmps, Opd.tmps, optT, f1, f2, f3, f4, f5, XRx, JUv, Q40, Q1i, Ype, YcP, JH2, ZWR, qk8, zJ7, ZWx, TW, zN5 hh, X9l hz, Zf1 hz, QwP hz, ne_eq, zzB, g]
  exact Bt.drop _ hh rfl (zzE _ _)
 by_cases c1 : qu1 (a, b)
 case neg =>
  have g := eq_false c1
  have we : wrE hs xs ds (a, b) xs' ds' = 3 := by
   unfold wrE
   rw [if_neg (zzN c0), if_pos c1]
  rw [if_pos (show wrE hs xs ds (a, b) xs' ds' ≠ 0 from by rw [we]; first | assumption | decide), we] at e
  cases e
  simp only [X7f, KtR, YUa, YOR, XuN, simprocAttr, CO.tmps, Opd.tmps, optT, f1, f2, f3, f4, f5, XRx, JUv, Q40, Q1i, Ype, YcP, JH2, ZWR, qk8, zJ7, ZWx, TW, zN5 hh, X9l hz, Zf1 hz, QwP hz, ne_eq, zzB, c0, g]
  exact Bt.drop _ hh rfl (zzE _ _)
 by_cases c2 : Zmz xs' ds' = 0
 case neg =>
  have g := eq_false c2
  have g1 := eq_true c1
  have we : wrE hs xs ds (a, b) xs' ds' = Zmz xs' ds' := by
   unfold wrE
   rw [if_neg (zzN c0), if_neg (zzN c1), if_pos c2]
  rw [if_pos (show wrE hs xs ds (a, b) xs' ds' ≠ 0 from by rw [we]; first | assumption | decide), we] at e
  cases e
  simp only [X7f, KtR, YUa, YOR, XuN, simprocAttr, CO.tmps, Opd.tmps, optT, f1, f2, f3, f4, f5, XRx, JUv, Q40, Q1i, Ype, YcP, JH2, ZWR, qk8, zJ7, ZWx, TW, zN5 hh, X9l hz, Zf1 hz, QwP hz, ne_eq, zzB, c0, g1, g]
  exact Bt.drop _ hh rfl (zzE _ _)
 have k0 := (ZgX c0).1
 have ra := XFh.1 c0
 have nb := YIm c2
 have g1 := eq_true c1
 by_cases c3 : YC0 xs ds (a, b)
 case pos =>
  have g := eq_true c3
  have we : wrE hs xs ds (a, b) xs' ds' = 19 := by
   unfold wrE
   rw [if_neg (zzN c0), if_neg (zzN c1), if_neg (zzN c2), if_pos (.inl c3)]
  rw [if_pos (show wrE hs xs ds (a, b) xs' ds' ≠ 0 from by rw [we]; first | assumption | decide), we] at e
  cases e
  simp only [X7f, KtR, YUa, YOR, XuN, simprocAttr, CO.tmps, Opd.tmps, optT, f1, f2, f3, f4, f5, XRx, JUv, Q40, Q1i, Ype, YcP, JH2, ZWR, qk8, zJ7, ZWx, TW, zN5 hh, X9l hz, Zf1 hz, QwP hz, ne_eq, zzB, c0, g1, c2, k0, g]
  exact Bt.drop _ hh rfl (zzE _ _)
 have g3 := eq_false c3
 by_cases c4 : YC0 xs' ds' (a, b)
 case pos =>
  have g := eq_true c4
  have we : wrE hs xs ds (a, b) xs' ds' = 19 := by
   unfold wrE
   rw [if_neg (zzN c0), if_neg (zzN c1), if_neg (zzN c2), if_pos (.inr c4)]
  rw [if_pos (show wrE hs xs ds (a, b) xs' ds' ≠ 0 from by rw [we]; first | assumption | decide), we] at e
  cases e
  simp only [X7f, KtR, YUa, YOR, XuN, simprocAttr, CO.tmps, Opd.tmps, optT, f1, f2, f3, f4, f5, XRx, JUv, Q40, Q1i, Ype, YcP, JH2, ZWR, qk8, zJ7, ZWx, TW, zN5 hh, X9l hz, Zf1 hz, QwP hz, ne_eq, zzB, c0, g1, c2, k0, g3, g]
  exact Bt.drop _ hh rfl (zzE _ _)
 have g4 := eq_false c4
 have nj := qBh ra.nf nb
 have kr := JT6 ra.nf.rg nb.rg
 have ej : fmO (K3Q xs xs' 16) (ds ++ ds') = Zjt xs xs' ds ds' := rfl
 have ed : (fmR (K3Q xs xs' 16) (layR (ds ++ ds'))).2 = (Zjt xs xs' ds ds').2 := rfl
 have eg := fun (L : List AB) (k : Nat) (hL : ownC L k = some (intR.cells (fmR (K3Q xs xs' 16) (layR (ds ++ ds'))).1)) => zlX (h := h) kr L k hL
 rw [ej] at eg
 by_cases c5 : (Zjt xs xs' ds ds').2.length ≤ 4096
 case neg =>
  have g := eq_false c5
  have we : wrE hs xs ds (a, b) xs' ds' = 10 := by
   unfold wrE
   rw [if_neg (zzN c0), if_neg (zzN c1), if_neg (zzN c2), if_neg (fun q => q.elim c3 c4), if_pos c5]
  rw [if_pos (show wrE hs xs ds (a, b) xs' ds' ≠ 0 from by rw [we]; first | assumption | decide), we] at e
  cases e
  simp only [X7f, KtR, YUa, YOR, XuN, simprocAttr, CO.tmps, Opd.tmps, optT, f1, f2, f3, f4, f5, XRx, JUv, Q40, Q1i, Ype, YcP, JH2, ZWR, qk8, zJ7, ZWx, TW, zN5 hh, X9l hz, Zf1 hz, QwP hz, ne_eq, zzB, c0, g1, c2, k0, g3, g4, ej, ed, g]
  exact Bt.drop _ hh rfl (zzE _ _)
 have g5 := eq_true c5
 have km := ZAN nj c1
 have g6 := eq_true km
 have ek : ∀ q, fmO (Zjt xs xs' ds ds').1 ((Zjt xs xs' ds ds').2 ++ [q]) = mkO (Zjt xs xs' ds ds').1 (Zjt xs xs' ds ds').2 q := fun q => rfl
 have lj : (((Zjt xs xs' ds ds').2 ++ [(a, b)]).length ≤ 1000000) = True := eq_true (by rw [List.length_append, List.length_singleton]; omega)
 have j3 : ((Zjt xs xs' ds ds').2.length ≤ 1000000) = True := eq_true (by omega)
 have j4 : (hs.length ≤ 1000000) = True := eq_true (by omega)
 have j5 : ((outL xs' ds' hs).length ≤ 1000000) = True := eq_true (by have := JKG xs' ds' hs; omega)
 have j6 : ((Zjt xs xs' ds ds').2.length ≤ 999999) = True := eq_true (by omega)
 have ew : layG J9e (outL xs' ds' hs) ((a, b), i) = wrL hs xs' ds' ((a, b), i) := rfl
 generalize hJ : Zjt xs xs' ds ds' = J at *
 by_cases c6 : (mkO J.1 J.2 (a, b)).2.length ≤ 4096
 case neg =>
  have g := eq_false c6
  have we : wrE hs xs ds (a, b) xs' ds' = 10 := by
   unfold wrE
   rw [hJ, if_neg (zzN c0), if_neg (zzN c1), if_neg (zzN c2), if_neg (fun q => q.elim c3 c4), if_neg (zzN c5), if_pos c6]
  rw [if_pos (show wrE hs xs ds (a, b) xs' ds' ≠ 0 from by rw [we]; decide), we] at e
  cases e
  rcases hcp with ⟨h0, rfl⟩ | ⟨h0, rfl⟩
  ·have hda : J.2 = [] := List.eq_nil_of_length_eq_zero h0
   have rd : ∀ (L : List AB) (k : Nat) (kk : Option Nat), ownC L k = some [.i .i64 a, .i .i64 b] → getS dotR (h ++ L) (.sl (h.length + k) 0 1 1 kk) = some (J.2 ++ [(a, b)]) := fun L k kk hL => by
    rw [hda]
    exact (YIQ (r := dotR) (h := h) (L := L) (k := k) (c := 1) (kk := kk) (l := [(a, b)]) (by rw [hL]; rfl) (by unfold maxLen; simp)).get
   have z3 : (1 * 16 ≤ 140737488355328 ∧ 1 ≤ maxLen) = True := eq_true ⟨by decide, by unfold maxLen; omega⟩
   simp only [X7f, KtR, YUa, YOR, XuN, simprocAttr, CO.tmps, Opd.tmps, optT, f1, f2, f3, f4, f5, XRx, JUv, Q40, Q1i, Ype, YcP, JH2, ZWR, qk8, zJ7, ZWx, TW, zN5 hh, X9l hz, Zf1 hz, QwP hz, ne_eq, zzB, c0, g1, c2, k0, g3, g4, ej, ed, eg, g5, g6, ek, lj, j3, j4, j5, z1a, qHz, List.length_append, Nat.zero_add, rd, XMh, ofHd, j6, Jmb, YiS, ew, zso, zqp, qdw, List.length_cons, List.length_nil, z3, h0, YQP, g]
   exact Bt.drop _ hh rfl (zzE _ _)
  ·have rd : ∀ (L : List AB) (k : Nat) (kk : Option Nat), ownC L k = some (dotR.cells J.2 ++ [.i .i64 a, .i .i64 b]) → getS dotR (h ++ L) (.sl (h.length + k) 0 (J.2.length + 1) (J.2.length + 1) kk) = some (J.2 ++ [(a, b)]) := fun L k kk hL => by
    have := (YIQ (r := dotR) (h := h) (L := L) (k := k) (c := (J.2 ++ [(a, b)]).length) (kk := kk) (l := J.2 ++ [(a, b)]) (by rw [hL]; simp [Row.cells, X5J]) (by unfold maxLen; simp; omega)).get
    rw [List.length_append, List.length_singleton] at this
    exact this
   have fa := fun L k ys hb => z4x (h := h) (p := h.length) rfl (r := dotR) (sz := 2) rfl L k J.2 16 1 ys h0 hb (by decide) (by omega) (by unfold maxLen; omega)
   simp only [X7f, KtR, YUa, YOR, XuN, simprocAttr, CO.tmps, Opd.tmps, optT, f1, f2, f3, f4, f5, XRx, JUv, Q40, Q1i, Ype, YcP, JH2, ZWR, qk8, zJ7, ZWx, TW, zN5 hh, X9l hz, Zf1 hz, QwP hz, ne_eq, zzB, c0, g1, c2, k0, g3, g4, ej, ed, eg, g5, g6, ek, lj, j3, j4, j5, z1a, qHz, List.length_append, Nat.zero_add, rd, XMh, ofHd, j6, Jmb, YiS, ew, zso, zqp, qdw, List.length_cons, List.length_nil, fa, ZvX, X5J, g]
   exact Bt.drop _ hh rfl (zzE _ _)
 have g := eq_true c6
 have we : wrE hs xs ds (a, b) xs' ds' = 0 := by
  unfold wrE
  rw [hJ, if_neg (zzN c0), if_neg (zzN c1), if_neg (zzN c2), if_neg (fun q => q.elim c3 c4), if_neg (zzN c5), if_neg (zzN c6)]
 rw [if_neg (zzN we)] at e
 cases e
 rcases hcp with ⟨h0, rfl⟩ | ⟨h0, rfl⟩
 ·have hda : J.2 = [] := List.eq_nil_of_length_eq_zero h0
  have rd : ∀ (L : List AB) (k : Nat) (kk : Option Nat), ownC L k = some [.i .i64 a, .i .i64 b] → getS dotR (h ++ L) (.sl (h.length + k) 0 1 1 kk) = some (J.2 ++ [(a, b)]) := fun L k kk hL => by
   rw [hda]
   exact (YIQ (r := dotR) (h := h) (L := L) (k := k) (c := 1) (kk := kk) (l := [(a, b)]) (by rw [hL]; rfl) (by unfold maxLen; simp)).get
  have z3 : (1 * 16 ≤ 140737488355328 ∧ 1 ≤ maxLen) = True := eq_true ⟨by decide, by unfold maxLen; omega⟩
  simp only [X7f, KtR, YUa, YOR, XuN, simprocAttr, CO.tmps, Opd.tmps, optT, f1, f2, f3, f4, f5, XRx, JUv, Q40, Q1i, Ype, YcP, JH2, ZWR, qk8, zJ7, ZWx, TW, zN5 hh, X9l hz, Zf1 hz, QwP hz, ne_eq, zzB, c0, g1, c2, k0, g3, g4, ej, ed, eg, g5, g6, ek, lj, j3, j4, j5, z1a, qHz, List.length_append, Nat.zero_add, rd, XMh, ofHd, j6, Jmb, YiS, ew, zso, zqp, qdw, List.length_cons, List.length_nil, z3, h0, YQP, g]
  exact Bt.sel [15, 11, 12] hh (by decide) (by simp only [qpr, FrSel, BlkSel, AV.ren, renL, AV.ok, okL, Option.some.injEq, exists_eq_left', List.length_cons, List.length_nil, Nat.reduceAdd, Nat.reduceLT, reduceCtorEq, implies_true, exists_eq']) (by simp only [qpr, FrSel, BlkSel, AV.ren, renL, AV.ok, okL, Option.some.injEq, exists_eq_left', List.length_cons, List.length_nil, Nat.reduceAdd, Nat.reduceLT, reduceCtorEq, implies_true, exists_eq'])
 ·have rd : ∀ (L : List AB) (k : Nat) (kk : Option Nat), ownC L k = some (dotR.cells J.2 ++ [.i .i64 a, .i .i64 b]) → getS dotR (h ++ L) (.sl (h.length + k) 0 (J.2.length + 1) (J.2.length + 1) kk) = some (J.2 ++ [(a, b)]) := fun L k kk hL => by
   have := (YIQ (r := dotR) (h := h) (L := L) (k := k) (c := (J.2 ++ [(a, b)]).length) (kk := kk) (l := J.2 ++ [(a, b)]) (by rw [hL]; simp [Row.cells, X5J]) (by unfold maxLen; simp; omega)).get
   rw [List.length_append, List.length_singleton] at this
   exact this
  have fa := fun L k ys hb => z4x (h := h) (p := h.length) rfl (r := dotR) (sz := 2) rfl L k J.2 16 1 ys h0 hb (by decide) (by omega) (by unfold maxLen; omega)
  simp only [X7f, KtR, YUa, YOR, XuN, simprocAttr, CO.tmps, Opd.tmps, optT, f1, f2, f3, f4, f5, XRx, JUv, Q40, Q1i, Ype, YcP, JH2, ZWR, qk8, zJ7, ZWx, TW, zN5 hh, X9l hz, Zf1 hz, QwP hz, ne_eq, zzB, c0, g1, c2, k0, g3, g4, ej, ed, eg, g5, g6, ek, lj, j3, j4, j5, z1a, qHz, List.length_append, Nat.zero_add, rd, XMh, ofHd, j6, Jmb, YiS, ew, zso, zqp, qdw, List.length_cons, List.length_nil, fa, ZvX, X5J, g]
  exact Bt.sel [15, 11, 12] hh (by decide) (by simp only [qpr, FrSel, BlkSel, AV.ren, renL, AV.ok, okL, Option.some.injEq, exists_eq_left', List.length_cons, List.length_nil, Nat.reduceAdd, Nat.reduceLT, reduceCtorEq, implies_true, exists_eq']) (by simp only [qpr, FrSel, BlkSel, AV.ren, renL, AV.ok, okL, Option.some.injEq, exists_eq_left', List.length_cons, List.length_nil, Nat.reduceAdd, Nat.reduceLT, reduceCtorEq, implies_true, exists_eq'])
theorem zey : Spec Tryz.prog 19 XJQ := by
 intro args h v h' e
 unfold XJQ at e
 split at e
 ·rename_i l s t a b x s' t'
  obtain ⟨hs, hl, e⟩ := Ksw e
  obtain ⟨xs, hv, e⟩ := Ksw e
  obtain ⟨ds, hd, e⟩ := Ksw e
  obtain ⟨xs', hv', e⟩ := Ksw e
  obtain ⟨ds', hd', e⟩ := Ksw e
  obtain ⟨i, hx, e2⟩ := qAl e
  clear e
  subst hx
  split at e2
  ·rename_i hL
   split at e2
   ·rename_i c
    cases e2
    refine FnAt.c (FnAt.frz0 fun hz => Kot hz hl.frz hv.frz hd.frz hv'.frz hd'.frz hL _ _ ?_)
    simp only [XJQ, hl.frz.get, hv.frz.get, hd.frz.get, hv'.frz.get, hd'.frz.get, zJO, Option.bind_some]
    rw [if_pos hL, if_pos c]
   ·rename_i c
    cases e2
    refine FnAt.c (FnAt.frz fun hz => Kot hz hl.frz hv.frz hd.frz hv'.frz hd'.frz hL _ _ ?_)
    simp only [XJQ, hl.frz.get, hv.frz.get, hd.frz.get, hv'.frz.get, hd'.frz.get, zJO, Option.bind_some, List.length_map]
    rw [if_pos hL, if_neg c]
  ·cases e2
 ·cases e
end Go.Proofs.YtcncpbcbedfakaaGreat
end
