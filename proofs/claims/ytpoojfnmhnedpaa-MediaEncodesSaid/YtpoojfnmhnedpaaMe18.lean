/- Part 18 of what the laws' proofs rest on. No condition. -/
import Derived.Test.YtpoojfnmhnedpaaMe17
set_option linter.all false
section
namespace Go.Proofs.Ytpoojfnmhnedpaa
set_option maxRecDepth 100000
set_option maxHeartbeats 4000000
theorem q2s {α : Type} (r : Row α) (H : List AB) (id : Nat) : getS r H (rsl r id []) = some [] := by
 have : Rd r H (rsl r id []) [] := ⟨by unfold rsl; simp [rdS]; rfl, Nat.zero_le _⟩
 exact this.get
def QzU : List AV → List AB → Option (AV × List AB)
 | [], h => some (.b true, h)
 | _, _ => none
theorem EB_z (k : Int) (hk : In64 k) : EB k [] (dsc deZ) [] [] := ⟨hk, Nat.zero_le _, ⟨by decide, by decide, Nat.zero_le _⟩, Nat.zero_le _, fun d hd => by simp at hd⟩
theorem XZx : menc (ZVh 4 [] (dsc deZ) [] []) = ([77, 4, 0, 0], 0) := by kernel_rfl
theorem YV2 : menc (ZVh 5 [] (dsc deZ) [] []) = ([], 20) := by kernel_rfl
theorem XL3 : mdec [77, 4, 0, 0] = (⟨4, [], deZ, [], []⟩, 0, 0) := by kernel_rfl
theorem JBu : wput 100 [] 0 (Jmv 77) true = ([77], 0) := by kernel_rfl
theorem X6i : wput 100 [77] 0 (Jmv 4) true = ([77, 4], 0) := by kernel_rfl
theorem zqL : wput 100 [77, 4] 0 (Jmv ([] : List UInt8).length ++ []) true = ([77, 4, 0], 0) := by kernel_rfl
theorem QZm : wput 100 [77, 4, 0] 0 (Jmv 0) true = ([77, 4, 0, 0], 0) := by kernel_rfl
theorem z3i : Spec Try.prog 9 QzU := by
 intro args h v h' e
 unfold QzU at e
 split at e
 ·cases e
  refine FnAt.c (FnAt.run (by kernel_rfl) (T := ⟨[⟨27, Zu3, fun _ => []⟩, ⟨28, J48, fun _ => []⟩, ⟨29, Z4B, fun _ => []⟩, ⟨30, YlB, fun _ => []⟩, ⟨11, YpP, fun _ => []⟩, ⟨20, Xrc, fun _ => []⟩, ⟨14, qYW, fun _ => []⟩, ⟨18, X1j, fun _ => []⟩, ⟨24, zbp, fun _ => []⟩], []⟩) ⟨⟨zoE, Kl4, Qm6, YM3, YXN, Qw6, Yp2, XuP, z61, trivial⟩, trivial⟩ Try.func9 sw9 fun ho hh => ?_)
  obtain ⟨H0, hH0⟩ : ∃ H0, H0 = h ++ [.blk false true [.p (h.length + 1) 0, .i .i64 100, .ns], .blk true true [.i .i64 0, .i .i64 0]] := ⟨_, rfl⟩
  have W : WrH H0 (h.length + 0) (h.length + 1) 100 .ns [] 0 := ⟨by rw [hH0, zSD]; rfl, by rw [hH0, zSD]; rfl, by decide, by decide, .inl ⟨rfl, rfl⟩⟩
  have W' := W
  rw [hH0] at W'
  obtain ⟨k1, R1, q1, I1, n1⟩ := KJ0 (D := []) (R := []) W (st := ([], 0)) (k := none) rfl W.hlen (Jmv 77) true
  rw [wX_0 W, JBu] at q1
  rw [JBu] at I1 n1
  obtain ⟨k2, R2, q2, I2, n2⟩ := KJ0 W I1 n1 (Jmv 4) true
  rw [X6i] at q2 I2 n2
  obtain ⟨k3, R3, q3, I3, n3⟩ := KJ0 W I2 n2 (Jmv ([] : List UInt8).length ++ []) true
  rw [zqL] at q3 I3 n3
  obtain ⟨k4, R4, q4, I4, n4⟩ := KJ0 W I3 n3 (Jmv 0) true
  rw [QZm] at q4 I4 n4
  have X := YFz W I4 n4 (L := R4)
  have dn := XC3 X (by decide)
  rw [if_pos rfl] at dn
  simp only [List.nil_append] at q1 q2 q3 q4 I4 dn
  rw [List.append_nil] at q1
  conv at q1 => lhs; rw [hH0]
  obtain ⟨bz, hbz⟩ : ∃ bz : List UInt8, bz = [77, 4, 0, 0] := ⟨_, rfl⟩
  have m4 := XZx
  have d4 := XL3
  rw [← hbz] at m4 d4 q4 dn I4
  obtain ⟨Z, hZ⟩ : ∃ Z, Z = wX H0 (h.length + 0) (h.length + 1) 100 .ns (bz, 0) k4 ++ R4 := ⟨_, rfl⟩
  rw [← hZ] at q4 dn
  obtain ⟨y1, y2, y3, y4⟩ := qoS (dsc deZ) (rsl deR (Z.length + 2) []) (rsl deR (Z.length + 3) [])
  have y5 := YfG (dsc deZ) (zDg (r := deR) (Z.length + 2) []) (zDg (r := deR) (Z.length + 3) [])
  have y6 : ∀ zs : List AV, zs.length = 37 → over zs 0 (deR.f (dsc deZ) ++ [rsl deR (Z.length + 2) [], rsl deR (Z.length + 3) []]) = deR.f (dsc deZ) ++ [rsl deR (Z.length + 2) [], rsl deR (Z.length + 3) []] := fun zs hz => qkR _ _ (by omega)
  have y7 : (deR.f (dsc deZ) ++ [rsl deR (Z.length + 2) [], rsl deR (Z.length + 3) []]).take 37 = deR.f (dsc deZ) ++ [rsl deR (Z.length + 2) [], rsl deR (Z.length + 3) []] := List.take_of_length_le (by omega)
  have keyz : ∀ a b c d : AV, (MT.key (4, [], dsc deZ, a, b, [], []) = MT.key (4, [], dsc deZ, c, d, [], [])) = True := fun a b c d => eq_true rfl
  have hbl : (bz.length ≤ 1000000) = True := by rw [hbz]; exact eq_true (by decide)
  have hbm : bz.length ≤ maxLen := by rw [hbz]; decide
  have i64 : ∀ n : Int, n = 77 ∨ n = 4 ∨ n = 0 → (In64 n) = True := fun n hn => eq_true (by rcases hn with rfl | rfl | rfl <;> decide)
  have i1 := i64 77 (.inl rfl)
  have i2 := i64 4 (.inr (.inl rfl))
  have i3 := i64 0 (.inr (.inr rfl))
  have z3 : (([] : List UInt8).length ≤ 1000000) = True := eq_true (by decide)
  have e4 := eq_true (EB_z 4 (by decide))
  have e5 := eq_true (EB_z 5 (by decide))
  have lit : ∀ (k : Int) (H : List AB), inM H (.ag (.i .i64 k :: .s [] :: (deR.f (dsc deZ) ++ [.ns, .ns]))) = some (k, [], dsc deZ, .ns, .ns, [], []) := fun k H => Xi3 (Jpk _ _) (Jpk _ _)
  simp only [Qwh, List.cons_append, List.nil_append] at lit
  have liz : ∀ (k : Int) (H : List AB) (a b : Nat), inM H (.ag (.i .i64 k :: .s [] :: (deR.f (dsc deZ) ++ [rsl deR a [], rsl deR b []]))) = some (k, [], dsc deZ, rsl deR a [], rsl deR b [], [], []) := fun k H a b => Xi3 (q2s _ _ _) (q2s _ _ _)
  have g0 : ∀ R, getS XQp (Z ++ (resB XQp true bz :: R)) (rsl XQp Z.length bz) = some bz := fun R => Z9G (r := XQp) (resB XQp true bz :: R) 0 bz ⟨true, rfl⟩ hbm
  have wl := fun st k => X9p (h := H0) (i := h.length + 0) (j := h.length + 1) (lim := 100) (s := .ns) st k
  have m5 := YV2
  unfold w9
  simp only [Qfy, Q7I, qe2, qur, X6x, simprocAttr, CO.tmps, Opd.tmps, optT, Nat.reducePow, Nat.reduceDiv, Nat.reduceMod, Q3v, JFu, YRr, Kti, zBI, Zu3, J48, Z4B, i1, i2, i3, z3, q1, q2, q3, q4, dn, YpP, Xrc, qYW, X1j, zbp, lit, liz, e4, e5, m4, m5, d4, hbl, hbm, y1, y5, y6, y7, eqcP, List.map_nil, keyz, g0]
  rw [hZ, List.append_assoc]
  refine Bt.trans (JUm (h.length + 0)) (Bt.trans (JUm (h.length + 1)) ?_)
  rw [List.set_append_left _ _ (by rw [X9p]; exact W.il), List.set_append_left _ _ (by rw [List.length_set, X9p]; exact W.jl), QWi, hH0, YFW, YFW, List.append_assoc]
  exact Bt.drop _ hh rfl rfl
 ·cases e
end Go.Proofs.Ytpoojfnmhnedpaa
end
section
namespace Go.Proofs.Ytpoojfnmhnedpaa
structure IdOk (m : Man) : Prop where
 c : m.config.id.length = 32
 l : ∀ d ∈ m.layers, d.id.length = 32
 s : ∀ d ∈ m.subs, d.id.length = 32
theorem ManIn.ids {m : Man} (h : ManIn m) : IdOk m := by
 refine ⟨?_, fun d hd => (h.all d (by unfold allD; simp [hd])).id, fun d hd => (h.all d (by unfold allD; simp [hd])).id⟩
 by_cases h3 : m.kind = 3
 ·exact (h.all m.config (by unfold allD; rw [if_pos h3]; simp)).id
 ·rw [(XM4 h.kind h3).2.2]
  simp [deZ]
end Go.Proofs.Ytpoojfnmhnedpaa
end
section
namespace Go.Proofs.Ytpoojfnmhnedpaa
set_option maxRecDepth 100000
set_option maxHeartbeats 4000000
theorem KHz (a t : UInt8) : binV .xor (u8A a) (u8A t) = some (u8A (a ^^^ t)) := by
 unfold u8A
 simp only [binV, binI, if_true, Option.some.injEq, AV.i.injEq, true_and]
 have e0 : IntKind.bits .u8 = 8 := rfl
 have e1 : ∀ x : UInt8, (BitVec.ofInt 8 (x.toNat : Int)).toNat = x.toNat := fun x => by
  rw [BitVec.ofInt_natCast, BitVec.toNat_ofNat]
  exact Nat.mod_eq_of_lt (by have := x.toNat_lt; omega)
 rw [e0, BitVec.toNat_xor, e1, e1, IntKind.wrap_u8, UInt8.toNat_xor]
 have h1 := Nat.xor_lt_two_pow (n := 8) (a.toNat_lt) (t.toNat_lt)
 omega
theorem KGR (l : List UInt8) {n : Nat} (h : n < l.length) (x : UInt8) : over (XQp.cells l) n [u8A x] = XQp.cells (l.set n x) := by
 rw [Kbg, Kbg]
 refine List.ext_getElem? fun k => ?_
 unfold over
 rw [List.map_set, List.getElem?_set]
 by_cases hk : n = k
 ·subst hk
  rw [if_pos rfl, if_pos (by rw [List.length_map]; exact h), List.append_assoc, List.getElem?_append_right (by rw [List.length_take]; omega), List.length_take, List.length_map, show n - min n l.length = 0 by omega]
  rfl
 ·rw [if_neg hk]
  by_cases hlt : k < n
  ·rw [List.append_assoc, List.getElem?_append_left (by rw [List.length_take, List.length_map]; omega), List.getElem?_take, if_pos hlt]
  ·rw [List.getElem?_append_right (by simp; omega), List.getElem?_drop]
   congr 1
   simp
   omega
theorem JGp (c : Dsc) : (∀ a b (ls ss : List Dsc), (deR.f c ++ [rsl deR a ls, rsl deR b ss]).length = 37) ∧ (∀ a b (ls ss : List Dsc), (deR.f c ++ [rsl deR a ls, rsl deR b ss]).all (wrOk false) = true) ∧ (∀ a b (ls ss : List Dsc) (zs : List AV), zs.length = 37 → over zs 0 (deR.f c ++ [rsl deR a ls, rsl deR b ss]) = deR.f c ++ [rsl deR a ls, rsl deR b ss]) ∧ (∀ a b (ls ss : List Dsc), (deR.f c ++ [rsl deR a ls, rsl deR b ss]).take 37 = deR.f c ++ [rsl deR a ls, rsl deR b ss]) := by
 have h1 : ∀ a b (ls ss : List Dsc), (deR.f c ++ [rsl deR a ls, rsl deR b ss]).length = 37 := fun a b ls ss => (qoS c _ _).1
 exact ⟨h1, fun a b ls ss => YfG c (zDg _ _) (zDg _ _), fun a b ls ss zs hz => qkR _ _ ((h1 _ _ _ _).trans hz.symm), fun a b ls ss => List.take_of_length_le (by rw [h1]; exact Nat.le_refl _)⟩
end Go.Proofs.Ytpoojfnmhnedpaa
end
section
namespace Go.Proofs.Ytpoojfnmhnedpaa
set_option maxRecDepth 100000
set_option maxHeartbeats 4000000
section
variable {P : Program} {h : List AB} {id n : Nat}
def topB (n : Nat) : AB := .blk true true (List.replicate n .top)
theorem Bt.top {p : Nat} {fr : List AV} {xs : List AV} (hi : h[id]? = some (.blk true true xs)) (hn : xs.length = n) : Bt P p fr h fr (h.set id (topB n)) := by
 refine Bt.less hi (fun ρ w b o m hb => ?_) (fun _ => rfl) (fun _ => rfl)
 obtain ⟨cs, e, fz, h1, h2, h3, _⟩ := hb
 refine ⟨cs, e, fz, h1, h2, by rw [List.length_replicate]; omega, fun k a c ha _ => ?_⟩
 rw [List.getElem?_replicate] at ha
 split at ha
 ·cases ha
  exact .top c
 ·cases ha
theorem KxN {p : Nat} {fr : List AV} {B : AB} (hi : h[id]? = some B) (x : List AB) : Bt P p fr (h ++ x) fr (h.set id .dead ++ x) := by
 have hid := (List.getElem?_eq_some_iff.1 hi).1
 have := Bt.less (P := P) (p := p) (fr := fr) (h := h ++ x) (i := id) (B := B) (B' := .dead) (by rw [List.getElem?_append_left hid]; exact hi) (fun _ _ _ _ _ _ => trivial) (fun q => by cases q) (fun q => by cases q)
 rwa [List.set_append_left _ _ hid] at this
end
def Q1u : List AV := .i .i64 (-7) :: (deR.f (dsc deZ)).drop 1
end Go.Proofs.Ytpoojfnmhnedpaa
end
section
namespace Go.Proofs.Ytpoojfnmhnedpaa
set_option maxRecDepth 100000
set_option maxHeartbeats 4000000
theorem KNd (d : Dsc) (a b : AV) : (deR.f d ++ [a, b]).length = 37 := by rw [List.length_append, deR.len]; rfl
theorem KQo (d : Dsc) (zs : List AV) (hz : zs.length = 37) (a b : AV) : over zs 0 (deR.f d ++ [a, b]) = deR.f d ++ [a, b] := qkR _ _ (by rw [KNd, hz])
end Go.Proofs.Ytpoojfnmhnedpaa
end
section
namespace Go.Proofs.Ytpoojfnmhnedpaa
set_option maxRecDepth 100000
set_option maxHeartbeats 4000000
def Qfx (d : Dsc) : Bool := decide (300 < d.plat.length)
theorem ZsT {α : Type} (f : α → Bool) (l : List α) (d : α) {n : Nat} (h : n < l.length) : (l.drop n).any f = (f (l.getD n d) || (l.drop (n + 1)).any f) := by
 rw [List.drop_eq_getElem_cons h, List.any_cons, List.getD_eq_getElem?_getD, List.getElem?_eq_getElem h]
 rfl
def JWr (t : List UInt8) (c : Dsc) (ls ss : List Dsc) : Bool := decide (20 < ls.length ∨ 12 < ss.length ∨ 5000 < t.length ∨ 300 < c.plat.length) || (ls.any Qfx || ss.any Qfx)
theorem YUS {t : List UInt8} {c : Dsc} {ls ss : List Dsc} (h : JWr t c ls ss = false) : ls.length ≤ 20 ∧ ss.length ≤ 12 ∧ t.length ≤ 5000 ∧ c.plat.length ≤ 300 ∧ ∀ d ∈ ls ++ ss, d.plat.length ≤ 300 := by
 unfold JWr at h
 simp only [Bool.or_eq_false_iff, decide_eq_false_iff_not, List.any_eq_false] at h
 obtain ⟨h1, h2, h3⟩ := h
 refine ⟨by omega, by omega, by omega, by omega, fun d hd => ?_⟩
 rcases List.mem_append.1 hd with hd | hd
 ·have := h2 d hd
  unfold Qfx at this
  simpa using this
 ·have := h3 d hd
  unfold Qfx at this
  simpa using this
noncomputable def q6y : List AV → List AB → Option (AV × List AB)
 | [a], h => (inM h a).bind fun y => some (.b (JWr y.2.1 y.2.2.1 y.2.2.2.2.2.1 y.2.2.2.2.2.2), h)
 | _, _ => none
theorem JMr : Spec Try.prog 8 q6y := by
 intro args h v h' e
 unfold q6y at e
 split at e
 ·rename_i a
  obtain ⟨k, t, c, l, s, ls, ss, rfl, hl, hs, e1⟩ := QNw e
  clear e
  cases e1
  refine FnAt.c (FnAt.run (by kernel_rfl) (T := ⟨[], []⟩) ⟨trivial, trivial⟩ Try.func8 sw8 fun ho hh => ?_)
  obtain ⟨c1, c2, c3, c4⟩ := qoS c l s
  have ca := YfG c hl.isSl hs.isSl
  simp only [Z3W, Kt4, YwG, q43, Bool.and_eq_true, Bool.and_true] at ho
  obtain ⟨-, -, -, ol, os⟩ := ho
  have fl := hl.fx ol (sz := 35) rfl
  have fs := hs.fx os (sz := 35) rfl
  have d34 : (deR.f c ++ [l, s])[34]? = some (.s c.plat) := by
   rw [List.getElem?_append_left (by have := deR.len c; rw [JLP] at this; omega)]
   exact (Q98 c).2.2.1
  have h1 := hl.2
  have h2 := hs.2
  unfold maxLen at h1 h2
  unfold w8
  by_cases g1 : 20 < ls.length
  ·have g1' : ((20 : Int) < (ls.length : Int)) = True := eq_true (by omega)
   have hr : JWr t c ls ss = true := by unfold JWr; rw [decide_eq_true (.inl g1)]; rfl
   rw [hr]
   simp only [Qfy, Q7I, qe2, qur, X6x, simprocAttr, CO.tmps, Opd.tmps, optT, Nat.reducePow, Nat.reduceDiv, Nat.reduceMod, Ycb, QGc, c1, c2, c3, d34, ca, fl, fs, g1']
   exact Bt.drop _ hh rfl rfl
  have g1' : ((20 : Int) < (ls.length : Int)) = False := eq_false (by omega)
  by_cases g2 : 12 < ss.length
  ·have g2' : ((12 : Int) < (ss.length : Int)) = True := eq_true (by omega)
   have hr : JWr t c ls ss = true := by unfold JWr; rw [decide_eq_true (.inr (.inl g2))]; rfl
   rw [hr]
   simp only [Qfy, Q7I, qe2, qur, X6x, simprocAttr, CO.tmps, Opd.tmps, optT, Nat.reducePow, Nat.reduceDiv, Nat.reduceMod, Ycb, QGc, c1, c2, c3, d34, ca, fl, fs, g1', g2']
   exact Bt.drop _ hh rfl rfl
  have g2' : ((12 : Int) < (ss.length : Int)) = False := eq_false (by omega)
  by_cases g3 : 5000 < t.length
  ·have g3' : ((5000 : Int) < (t.length : Int)) = True := eq_true (by omega)
   have hr : JWr t c ls ss = true := by unfold JWr; rw [decide_eq_true (.inr (.inr (.inl g3)))]; rfl
   rw [hr]
   simp only [Qfy, Q7I, qe2, qur, X6x, simprocAttr, CO.tmps, Opd.tmps, optT, Nat.reducePow, Nat.reduceDiv, Nat.reduceMod, Ycb, QGc, c1, c2, c3, d34, ca, fl, fs, g1', g2', g3']
   exact Bt.drop _ hh rfl rfl
  have g3' : ((5000 : Int) < (t.length : Int)) = False := eq_false (by omega)
  by_cases g4 : 300 < c.plat.length
  ·have g4' : ((300 : Int) < (c.plat.length : Int)) = True := eq_true (by omega)
   have hr : JWr t c ls ss = true := by unfold JWr; rw [decide_eq_true (.inr (.inr (.inr g4)))]; rfl
   rw [hr]
   simp only [Qfy, Q7I, qe2, qur, X6x, simprocAttr, CO.tmps, Opd.tmps, optT, Nat.reducePow, Nat.reduceDiv, Nat.reduceMod, Ycb, QGc, c1, c2, c3, d34, ca, fl, fs, g1', g2', g3', g4']
   exact Bt.drop _ hh rfl rfl
  have g4' : ((300 : Int) < (c.plat.length : Int)) = False := eq_false (by omega)
  have hr : JWr t c ls ss = (ls.any Qfx || ss.any Qfx) := by unfold JWr; rw [decide_eq_false (by omega), Bool.false_or]
  rw [hr]
  simp only [Qfy, Q7I, qe2, qur, X6x, simprocAttr, CO.tmps, Opd.tmps, optT, Nat.reducePow, Nat.reduceDiv, Nat.reduceMod, Ycb, QGc, c1, c2, c3, d34, ca, fl, fs, g1', g2', g3', g4']
  refine J4A (S := Nat) (fun n => ls.length - n) (fun n => tp 1 ++ [.p (h.length + 0) 0] ++ tp 1 ++ [.i .i64 n] ++ tp 54) (fun n => n ≤ ls.length ∧ ls.any Qfx = (ls.drop n).any Qfx) 0 ⟨Nat.zero_le _, rfl⟩ (by simp only [qe2, X6x, simprocAttr, Int.natCast_zero]) fun n hn => ?_
  obtain ⟨n1, n2⟩ := hn
  by_cases gn : n < ls.length
  ·have gn' : ((n : Int) < (ls.length : Int)) = True := eq_true (by omega)
   have gn2 := eq_true gn
   have e1 : IntKind.i64.wrap ((n : Int) + 1) = ((n + 1 : Nat) : Int) := zdT (by unfold In64; omega)
   have st := ZsT Qfx ls deR.d gn
   obtain ⟨d, hd⟩ : ∃ d, d = ls.getD n deR.d := ⟨_, rfl⟩
   rw [← hd] at st
   obtain ⟨-, -, q34, -⟩ := Q98 d
   by_cases gd : 300 < d.plat.length
   ·have gd' : ((300 : Int) < (d.plat.length : Int)) = True := eq_true (by omega)
    have : Qfx d = true := decide_eq_true gd
    rw [n2, st, this]
    simp only [qe2, qur, X6x, simprocAttr, CO.tmps, Opd.tmps, optT, Nat.reducePow, Nat.reduceDiv, Nat.reduceMod, Ycb, QGc, c2, fl, gn', gn2, ← hd, q34, gd']
    exact Bt.drop _ hh rfl rfl
   ·have gd' : ((300 : Int) < (d.plat.length : Int)) = False := eq_false (by omega)
    have : Qfx d = false := decide_eq_false gd
    rw [this, Bool.false_or] at st
    simp only [qe2, qur, X6x, simprocAttr, CO.tmps, Opd.tmps, optT, Nat.reducePow, Nat.reduceDiv, Nat.reduceMod, Ycb, QGc, c2, fl, gn', gn2, ← hd, q34, gd', e1]
    exact ⟨n + 1, ⟨gn, by rw [n2, st]⟩, by omega, Wk.refl _⟩
  ·obtain rfl : n = ls.length := by omega
   have gn' : ((ls.length : Int) < (ls.length : Int)) = False := eq_false (by omega)
   rw [n2, List.drop_length, List.any_nil, Bool.false_or]
   simp only [qe2, qur, X6x, simprocAttr, CO.tmps, Opd.tmps, optT, Nat.reducePow, Nat.reduceDiv, Nat.reduceMod, c2, fl, gn']
   refine J4A (S := Nat) (fun n => ss.length - n) (fun n => tp 1 ++ [.p (h.length + 0) 0] ++ tp 2 ++ [.i .i64 n] ++ tp 53) (fun n => n ≤ ss.length ∧ ss.any Qfx = (ss.drop n).any Qfx) 0 ⟨Nat.zero_le _, rfl⟩ (by simp only [qe2, X6x, simprocAttr, Int.natCast_zero]) fun n hn => ?_
   obtain ⟨n1, n2⟩ := hn
   by_cases gn : n < ss.length
   ·have gn' : ((n : Int) < (ss.length : Int)) = True := eq_true (by omega)
    have gn2 := eq_true gn
    have e1 : IntKind.i64.wrap ((n : Int) + 1) = ((n + 1 : Nat) : Int) := zdT (by unfold In64; omega)
    have st := ZsT Qfx ss deR.d gn
    obtain ⟨d, hd⟩ : ∃ d, d = ss.getD n deR.d := ⟨_, rfl⟩
    rw [← hd] at st
    obtain ⟨-, -, q34, -⟩ := Q98 d
    by_cases gd : 300 < d.plat.length
    ·have gd' : ((300 : Int) < (d.plat.length : Int)) = True := eq_true (by omega)
     have : Qfx d = true := decide_eq_true gd
     rw [n2, st, this]
     simp only [qe2, qur, X6x, simprocAttr, CO.tmps, Opd.tmps, optT, Nat.reducePow, Nat.reduceDiv, Nat.reduceMod, Ycb, QGc, c3, fs, gn', gn2, ← hd, q34, gd']
     exact Bt.drop _ hh rfl rfl
    ·have gd' : ((300 : Int) < (d.plat.length : Int)) = False := eq_false (by omega)
     have : Qfx d = false := decide_eq_false gd
     rw [this, Bool.false_or] at st
     simp only [qe2, qur, X6x, simprocAttr, CO.tmps, Opd.tmps, optT, Nat.reducePow, Nat.reduceDiv, Nat.reduceMod, Ycb, QGc, c3, fs, gn', gn2, ← hd, q34, gd', e1]
     exact ⟨n + 1, ⟨gn, by rw [n2, st]⟩, by omega, Wk.refl _⟩
   ·obtain rfl : n = ss.length := by omega
    have gn' : ((ss.length : Int) < (ss.length : Int)) = False := eq_false (by omega)
    rw [n2, List.drop_length]
    simp only [qe2, qur, X6x, simprocAttr, CO.tmps, Opd.tmps, optT, Nat.reducePow, Nat.reduceDiv, Nat.reduceMod, c3, fs, gn']
    exact Bt.drop _ hh rfl rfl
 ·cases e
end Go.Proofs.Ytpoojfnmhnedpaa
end
section
namespace Go.Proofs.Ytpoojfnmhnedpaa
set_option maxRecDepth 100000
set_option maxHeartbeats 4000000
def I64D (d : Dsc) : Prop := I64 d.media ∧ I64 d.size
theorem Jyg (k : Int) (c : Dsc) (ls ss : List Dsc) : (desL k c ls ss).length = (if k = 3 then 1 else 0) + (ls.length + ss.length) := by
 unfold desL
 rw [List.length_append, List.length_append]
 split <;> simp <;> omega
end Go.Proofs.Ytpoojfnmhnedpaa
end
section
namespace Go.Proofs.Ytpoojfnmhnedpaa
set_option maxRecDepth 100000
set_option maxHeartbeats 4000000
def blkV (lim : Int) (s : AV) (e : Int) : AB := .blk false true [.i .i64 lim, s, .i .i64 e]
structure VrH (h : List AB) (i : Nat) (lim : Int) (s : AV) (bs : List UInt8) (e : Int) : Prop where
 hi : h[i]? = some (blkV lim s e)
 hlim : lim ≤ 67108864
 hlen : (bs.length : Int) ≤ lim
 hs : (s = .ns ∧ bs = []) ∨ ∃ q, s = apS XQp q bs ∧ bs.length ≠ 0 ∧ h[q]? = some (resB XQp true bs)
section
variable {h : List AB} {i : Nat} {lim : Int} {s : AV} {bs : List UInt8} {e : Int}
theorem VrH.il (H : VrH h i lim s bs e) : i < h.length := (List.getElem?_eq_some_iff.1 H.hi).1
theorem VrH.q (H : VrH h i lim s bs e) {q : Nat} (hq : s = apS XQp q bs) (h0 : bs.length ≠ 0) : h[q]? = some (.blk true true (XQp.cells bs)) ∧ q ≠ i ∧ q < h.length := by
 rcases H.hs with ⟨q1, q2⟩ | ⟨q', q1, _, q3⟩
 ·rw [q2] at h0
  exact absurd rfl h0
 ·have : q' = q := by
   rw [q1, YFm _ h0, YFm _ h0] at hq
   injection hq
  subst this
  rw [qgk h0] at q3
  refine ⟨q3, ?_, (List.getElem?_eq_some_iff.1 q3).1⟩
  rintro rfl
  have := q3.symm.trans H.hi
  simp [blkV] at this
theorem VrH.uniq {i : Nat} {x y : Int × AV × List UInt8 × Int} (H : VrH h i x.1 x.2.1 x.2.2.1 x.2.2.2) (K : VrH h i y.1 y.2.1 y.2.2.1 y.2.2.2) : x = y := by
 obtain ⟨lim, s, bs, e⟩ := x
 obtain ⟨lim', s', bs', e'⟩ := y
 dsimp only at H K
 have h1 := H.hi.symm.trans K.hi
 simp only [blkV, Option.some.injEq, AB.blk.injEq, List.cons.injEq, AV.i.injEq, true_and, and_true] at h1
 obtain ⟨rfl, rfl, rfl⟩ := h1
 have : bs = bs' := by
  rcases H.hs with ⟨q1, q2⟩ | ⟨q, q1, q2, q3⟩ <;> rcases K.hs with ⟨p1, p2⟩ | ⟨p, p1, p2, p3⟩
  ·rw [q2, p2]
  ·rw [q1, YFm _ p2] at p1; cases p1
  ·rw [p1, YFm _ q2] at q1; cases q1
  ·have hqp : p = q := by
    rw [q1, YFm _ q2, YFm _ p2] at p1
    injection p1 with p1
    exact p1.symm
   subst hqp
   exact XOa (q1.symm.trans p1) (by have := q3.symm.trans p3; injection this)
 rw [this]
open Classical in
noncomputable def vrM (h : List AB) (i : Nat) : Option (Int × AV × List UInt8 × Int) := if e : ∃ x : Int × AV × List UInt8 × Int, VrH h i x.1 x.2.1 x.2.2.1 x.2.2.2 then some e.choose else none
theorem VrH.get (H : VrH h i lim s bs e) : vrM h i = some (lim, s, bs, e) := by
 have hx : ∃ x : Int × AV × List UInt8 × Int, VrH h i x.1 x.2.1 x.2.2.1 x.2.2.2 := ⟨(lim, s, bs, e), H⟩
 unfold vrM
 rw [dif_pos hx]
 exact congrArg some (VrH.uniq hx.choose_spec (y := (lim, s, bs, e)) H)
theorem qOv {β : Type} {f : Int × AV × List UInt8 × Int → Option β} {b : β} (q : (vrM h i).bind f = some b) : ∃ lim s bs e, VrH h i lim s bs e ∧ f (lim, s, bs, e) = some b := by
 obtain ⟨x, h1, h2⟩ := Option.bind_eq_some_iff.1 q
 unfold vrM at h1
 split at h1
 ·rename_i hx
  cases h1
  exact ⟨_, _, _, _, hx.choose_spec, h2⟩
 ·cases h1
def vX (h : List AB) (i : Nat) (lim : Int) (s : AV) (st : List UInt8 × Int) : Option Nat → List AB
 | none => h.set i (blkV lim s st.2)
 | some k => (YlR s h).set i (blkV lim (apS XQp (h.length + k) st.1) st.2)
noncomputable def vOut (h : List AB) (i : Nat) (lim : Int) (s : AV) (bs : List UInt8) (st : List UInt8 × Int) : List AB := vX h i lim s st (if st.1 = bs then none else some 0) ++ [if st.1 = bs then .dead else resB XQp true st.1]
noncomputable def vPut (h : List AB) (i : Nat) (enc : List UInt8) (ok : Bool) : Option (AV × List AB) := (vrM h i).bind fun x => some (.i .i64 (wput x.1 x.2.2.1 x.2.2.2 enc ok).2, vOut h i x.1 x.2.1 x.2.2.1 (wput x.1 x.2.2.1 x.2.2.2 enc ok))
noncomputable def vSeq (f : Int → List UInt8 × Int → List UInt8 × Int) (h : List AB) (i : Nat) : Option (AV × List AB) := (vrM h i).bind fun x => some (.tu [], vOut h i x.1 x.2.1 x.2.2.1 (f x.1 (x.2.2.1, x.2.2.2)))
theorem KBh (st : List UInt8 × Int) (k : Option Nat) : (vX h i lim s st k).length = h.length := by
 cases k with
 | none => simp [vX]
 | some k => simp [vX, ZtQ]
theorem vX_i (H : VrH h i lim s bs e) (st : List UInt8 × Int) (k : Option Nat) : (vX h i lim s st k)[i]? = some (blkV lim (wK h s st k) st.2) := by
 have := H.il
 cases k with
 | none => simp only [vX, wK]; rw [List.getElem?_set_self this]
 | some k => simp only [vX, wK]; rw [List.getElem?_set_self (by rw [ZtQ]; exact this)]
theorem J4Z (H : VrH h i lim s bs e) {st : List UInt8 × Int} {k : Option Nat} {d : Nat} {L : List AB} (I : WInv d bs st L k) (hl : (st.1.length : Int) ≤ lim) : VrH (vX h i lim s st k ++ L) i lim (wK h s st k) st.1 st.2 := by
 have hil := H.il
 refine ⟨?_, H.hlim, hl, ?_⟩
 ·rw [List.getElem?_append_left (by rw [KBh]; exact hil), vX_i H]
 ·cases k with
  | none =>
   have hb : st.1 = bs := I
   rcases H.hs with ⟨q1, q2⟩ | ⟨q, q1, q2, q3⟩
   ·exact .inl ⟨q1, by rw [hb, q2]⟩
   ·obtain ⟨p1, p2, p4⟩ := H.q q1 q2
    refine .inr ⟨q, by rw [hb]; exact q1, by rw [hb]; exact q2, ?_⟩
    rw [List.getElem?_append_left (by rw [KBh]; exact p4), hb]
    simp only [vX]
    rw [List.getElem?_set_ne (Ne.symm p2)]
    exact q3
  | some k =>
   obtain ⟨_, i1, i2⟩ := I
   refine .inr ⟨h.length + k, rfl, by omega, ?_⟩
   rw [List.getElem?_append_right (by rw [KBh]; omega), KBh, Nat.add_sub_cancel_left]
   exact i2
theorem JOe (H : VrH h i lim s bs e) {st st' : List UInt8 × Int} {k : Option Nat} {D R : List AB} (I : WInv D.length bs st (D ++ R) k) (hle : (st'.1.length : Int) ≤ lim) (hg : st'.1 = st.1 ∨ st.1.length < st'.1.length) : ∃ k' R', vOut (vX h i lim s st k ++ (D ++ R)) i lim (wK h s st k) st.1 st' = vX h i lim s st' k' ++ (D ++ R') ∧ WInv D.length bs st' (D ++ R') k' := by
 have hlen : (vX h i lim s st k ++ (D ++ R)).length = h.length + (D ++ R).length := by rw [List.length_append, KBh]
 have hil := H.il
 unfold vOut
 by_cases hs : st'.1 = st.1
 ·rw [if_pos hs, if_pos hs]
  have e1 : vX (vX h i lim s st k ++ (D ++ R)) i lim (wK h s st k) st' none ++ [.dead] = vX h i lim s st' k ++ (D ++ (R ++ [.dead])) := by
   show (vX h i lim s st k ++ (D ++ R)).set i (blkV lim (wK h s st k) st'.2) ++ [.dead] = _
   rw [List.set_append_left _ _ (by rw [KBh]; exact hil)]
   have : (vX h i lim s st k).set i (blkV lim (wK h s st k) st'.2) = vX h i lim s st' k := by
    cases k with
    | none => simp only [vX, wK]; rw [List.set_set]
    | some k => simp only [vX, wK]; rw [List.set_set, hs]
   rw [this]
   simp only [List.append_assoc]
  refine ⟨k, R ++ [.dead], by rw [e1], ?_⟩
  cases k with
  | none => exact hs.trans I
  | some k =>
   obtain ⟨i0, i1, i2⟩ := I
   refine ⟨i0, by rw [hs]; exact i1, ?_⟩
   rw [← List.append_assoc, List.getElem?_append_left (List.getElem?_eq_some_iff.1 i2).1, hs]
   exact i2
 ·rw [if_neg hs, if_neg hs]
  have hlt := hg.resolve_left hs
  have e0 : (vX h i lim s st k ++ (D ++ R)).length + 0 = h.length + (D ++ R).length := by rw [hlen, Nat.add_zero]
  cases k with
  | none =>
   have hb : st.1 = bs := I
   have e1 : vX (vX h i lim s st none ++ (D ++ R)) i lim s st' (some 0) ++ [resB XQp true st'.1] = vX h i lim s st' (some (D ++ R).length) ++ (D ++ (R ++ [resB XQp true st'.1])) := by
    show (YlR s (vX h i lim s st none ++ (D ++ R))).set i (blkV lim (apS XQp ((vX h i lim s st none ++ (D ++ R)).length + 0) st'.1) st'.2) ++ [resB XQp true st'.1] = _
    rw [e0]
    have k1 : YlR s (vX h i lim s st none ++ (D ++ R)) = (YlR s h).set i (blkV lim s st.2) ++ (D ++ R) := by
     rcases H.hs with ⟨q1, q2⟩ | ⟨q, q1, q2, q3⟩
     ·rw [q1]; rfl
     ·obtain ⟨p1, p2, p4⟩ := H.q q1 q2
      rw [q1, YFm _ q2]
      simp only [YlR, vX]
      rw [List.set_append_left _ _ (by rw [List.length_set]; exact p4), List.set_comm _ _ (Ne.symm p2)]
    rw [k1, List.set_append_left _ _ (by rw [List.length_set, ZtQ]; exact hil), List.set_set]
    simp only [vX, List.append_assoc]
   refine ⟨some (D ++ R).length, R ++ [resB XQp true st'.1], by simp only [wK]; rw [e1], ⟨by rw [List.length_append]; omega, by rw [← hb]; exact hlt, ?_⟩⟩
   rw [← List.append_assoc, List.getElem?_append_right (Nat.le_refl _), Nat.sub_self]
   rfl
  | some k =>
   obtain ⟨i0, i1, i2⟩ := I
   have hk := (List.getElem?_eq_some_iff.1 i2).1
   have h0 : st.1.length ≠ 0 := by omega
   have e2 : (D ++ R).set k .dead = D ++ R.set (k - D.length) .dead := List.set_append_right _ _ i0
   have e1 : vX (vX h i lim s st (some k) ++ (D ++ R)) i lim (wK h s st (some k)) st' (some 0) ++ [resB XQp true st'.1] = vX h i lim s st' (some (D ++ R).length) ++ (D ++ (R.set (k - D.length) .dead ++ [resB XQp true st'.1])) := by
    show (YlR (wK h s st (some k)) (vX h i lim s st (some k) ++ (D ++ R))).set i (blkV lim (apS XQp ((vX h i lim s st (some k) ++ (D ++ R)).length + 0) st'.1) st'.2) ++ [resB XQp true st'.1] = _
    rw [e0]
    have k1 : YlR (wK h s st (some k)) (vX h i lim s st (some k) ++ (D ++ R)) = vX h i lim s st (some k) ++ (D ++ R.set (k - D.length) .dead) := by
     simp only [wK]
     rw [YFm _ h0]
     show (vX h i lim s st (some k) ++ (D ++ R)).set (h.length + k) .dead = _
     rw [List.set_append_right _ _ (by rw [KBh]; omega), KBh, Nat.add_sub_cancel_left, e2]
    rw [k1, List.set_append_left _ _ (by rw [KBh]; exact hil)]
    simp only [vX]
    rw [List.set_set]
    simp only [List.append_assoc]
   refine ⟨some (D ++ R).length, R.set (k - D.length) .dead ++ [resB XQp true st'.1], by rw [e1], ⟨by rw [List.length_append]; omega, by omega, ?_⟩⟩
   rw [← List.append_assoc, ← e2, List.getElem?_append_right (by rw [List.length_set]; exact Nat.le_refl _), List.length_set, Nat.sub_self]
   rfl
theorem Qh2 (H : VrH h i lim s bs e) {st : List UInt8 × Int} {k : Option Nat} {D R : List AB} (I : WInv D.length bs st (D ++ R) k) (hl : (st.1.length : Int) ≤ lim) (enc : List UInt8) (ok : Bool) : ∃ k' R', vPut (vX h i lim s st k ++ (D ++ R)) i enc ok = some (.i .i64 (wput lim st.1 st.2 enc ok).2, vX h i lim s (wput lim st.1 st.2 enc ok) k' ++ (D ++ R')) ∧ WInv D.length bs (wput lim st.1 st.2 enc ok) (D ++ R') k' ∧ ((wput lim st.1 st.2 enc ok).1.length : Int) ≤ lim := by
 have hle := ZHa lim st.1 st.2 enc ok hl
 obtain ⟨k', R', q1, q2⟩ := JOe H I hle (zhp lim st enc ok)
 refine ⟨k', R', ?_, q2, hle⟩
 unfold vPut
 rw [(J4Z H I hl).get, Option.bind_some, q1]
theorem ZDR (H : VrH h i lim s bs e) {f : Int → List UInt8 × Int → List UInt8 × Int} (F : FOk f) {st : List UInt8 × Int} {k : Option Nat} {D R : List AB} (I : WInv D.length bs st (D ++ R) k) (hl : (st.1.length : Int) ≤ lim) : ∃ k' R', vSeq f (vX h i lim s st k ++ (D ++ R)) i = some (.tu [], vX h i lim s (f lim st) k' ++ (D ++ R')) ∧ WInv D.length bs (f lim st) (D ++ R') k' ∧ ((f lim st).1.length : Int) ≤ lim := by
 have hle := F.le lim st hl
 obtain ⟨k', R', q1, q2⟩ := JOe H I hle (F.grow lim st)
 refine ⟨k', R', ?_, q2, hle⟩
 unfold vSeq
 rw [(J4Z H I hl).get, Option.bind_some, q1]
theorem vX_0 (H : VrH h i lim s bs e) : vX h i lim s (bs, e) none = h := by
 simp only [vX]
 exact YTL H.hi
theorem qmT {P : Program} (H : VrH h i lim s bs e) (hh : HOk h) {st : List UInt8 × Int} {k : Option Nat} {d : Nat} {L : List AB} (I : WInv d bs st L k) (v : AV) (hv : (v.fl || match v with | .tu [] => true | _ => false) = true) :
  Bt P h.length [v] (vX h i lim s st k ++ L) [v] (vOut h i lim s bs st) := by
 unfold vOut
 have hil := H.il
 have hvo : ∀ q, v.ok q = true := fun q => by
  cases v <;> first | rfl | (cases hv; done) | skip
  rename_i l
  cases l <;> first | rfl | (cases hv; done)
 have hvr : ∀ f, v.ren f = v := fun f => by
  cases v <;> first | rfl | (cases hv; done) | skip
  rename_i l
  cases l <;> first | rfl | (cases hv; done)
 cases k with
 | none =>
  have hb : st.1 = bs := I
  rw [if_pos hb, if_pos hb]
  have hso : s.ok (fun k => decide (k < h.length)) = true := by
   have := hh i _ H.hi
   simp only [blkV, AB.ok, Z3W, Bool.and_eq_true] at this
   exact this.2.1
  have hok : HOk (vX h i lim s st none) := fun m B hB => by
   rw [KBh]
   simp only [vX] at hB
   by_cases hm : m = i
   ·subst hm
    rw [List.getElem?_set_self hil] at hB
    cases hB
    simp only [blkV, AB.ok, Z3W, Kt4, ok_i, hso, Bool.and_true]
   ·rw [List.getElem?_set_ne (Ne.symm hm)] at hB
    exact hh m B hB
  have h1 := Bt.drop (P := P) (h := vX h i lim s st none) (v := v) (a := v) L hok rfl (hvo _)
  have h2 := Bt.pad (P := P) (p := h.length) [v] (vX h i lim s st none) 1
  rw [KBh] at h1
  exact Bt.trans h1 h2
 | some k =>
  obtain ⟨i0, i1, i2⟩ := I
  have hne : st.1 ≠ bs := fun q => by rw [q] at i1; omega
  have h0 : st.1.length ≠ 0 := by omega
  rw [if_neg hne, if_neg hne]
  have := Bt.selO (P := P) (h := vX h i lim s st (some k)) (g := vX h i lim s st (some 0)) (l := L) (l' := [resB XQp true st.1]) (fr := [v]) (fr' := [v]) [k] (by rw [KBh, KBh]) (fun m B hB => ?_) (by simp) ⟨⟨_, i2, of_eq_true (Ygp _ _ _ _)⟩, trivial⟩ ⟨.inr ⟨hvo _, by rw [hvr]; exact Wk.refl _⟩, trivial⟩
  ·rw [KBh] at this
   exact this
  ·by_cases hm : m = i
   ·subst hm
    rw [vX_i H] at hB
    cases hB
    refine .inr ⟨_, vX_i H st (some k), ?_⟩
    simp only [wK, blkV]
    rw [YFm _ h0, YFm _ h0]
    refine ⟨id, ?_, ?_⟩
    ·simp only [Z3W, Kt4, ok_i, KBh, Bool.and_true, Bool.true_and]
     exact Zig (fun i => decide (i < h.length + [k].length)) _ _ _ _ _ (decide_eq_true (show h.length + 0 < h.length + 1 by omega))
    ·simp only [renL, AV.ren, KBh]
     rw [show selN h.length [k] (h.length + 0) = h.length + k from Qbt 0]
     exact WkL.refl _
   ·left
    have e1 : (vX h i lim s st (some 0))[m]? = (YlR s h)[m]? := by
     simp only [vX]
     rw [List.getElem?_set_ne (Ne.symm hm)]
    have e2 : (vX h i lim s st (some k))[m]? = (YlR s h)[m]? := by
     simp only [vX]
     rw [List.getElem?_set_ne (Ne.symm hm)]
    rw [e1] at hB
    rw [e2]
    refine ⟨hB, ?_⟩
    rw [KBh]
    unfold YlR at hB
    split at hB
    ·rw [List.getElem?_set] at hB
     split at hB
     ·split at hB
      ·cases hB; rfl
      ·cases hB
     ·exact hh m B hB
    ·exact hh m B hB
end
end Go.Proofs.Ytpoojfnmhnedpaa
end
section
namespace Go.Proofs.Ytpoojfnmhnedpaa
set_option maxRecDepth 100000
set_option maxHeartbeats 4000000
section
variable {h : List AB} {i : Nat} {lim : Int} {s : AV} {bs : List UInt8} {e : Int}
theorem qwo (H : VrH h i lim s bs e) : qhl h i = some [.i .i64 lim, s, .i .i64 e] := by unfold qhl; rw [H.hi]; rfl
theorem Q7N (H : VrH h i lim s bs e) (st : List UInt8 × Int) (k : Option Nat) (L : List AB) : ldV (vX h i lim s st k ++ L) none (.p i 2) = some (.i .i64 st.2) := by
 have hil := H.il
 simp only [ldV, qhl]
 rw [List.getElem?_append_left (by rw [KBh]; exact hil), vX_i H]
 rfl
theorem YXT (H : VrH h i lim s bs 0) (x : Int) (L : List AB) : stV (h ++ L) none (.p i 2) (.i .i64 x) = some (vX h i lim s (bs, x) none ++ L) := by
 rw [QpM (h := h) (i := i) (fl := false) (cells := [.i .i64 lim, s, .i .i64 0]) H.hi (o := 2) (Nat.le_refl 3) rfl rfl]
 rfl
theorem XAK (H : VrH h i lim s bs e) {enc : List UInt8} (h0 : enc.length ≠ 0) (hm : enc.length ≤ 1000009) (L : List AB) : appW (h ++ L) true 1 1 s enc.length (XQp.cells enc) = some (apS XQp (h.length + L.length) (bs ++ enc), YlR s h ++ (L ++ [resB XQp true (bs ++ enc)])) := by
 have hl1 := H.hlim
 have hl2 := H.hlen
 rcases H.hs with ⟨q1, q2⟩ | ⟨q, q1, q2, q3⟩
 ·rw [q1, q2, K2e, if_neg h0, if_pos ⟨by omega, by unfold maxLen; omega⟩, List.nil_append, YFm _ h0, qgk h0]
  rfl
 ·obtain ⟨p1, p2, p4⟩ := H.q q1 q2
  have hg : (h ++ L)[q]? = some (.blk true true (XQp.cells bs)) := by rw [List.getElem?_append_left p4]; exact p1
  have hcl : (XQp.cells bs).length = bs.length := by rw [XQp.cells_len, ZGD]; omega
  rw [q1, YFm _ q2, X20 _ q2, ZPs q2]
  simp only [appW, YlR, hg]
  rw [if_neg h0, if_neg (by omega), if_pos ⟨trivial, by omega, by omega, by unfold maxLen; omega⟩, if_neg (by simp), if_pos ⟨trivial, by decide, trivial, by omega⟩, List.drop_zero, List.length_append, List.set_append_left _ _ p4, List.append_assoc]
  rfl
theorem XZo (H : VrH h i lim s bs 0) (k : Nat) (bs' : List UInt8) (L : List AB) : stV (YlR s h ++ L) none (.p i 1) (apS XQp (h.length + k) bs') = some (vX h i lim s (bs', 0) (some k) ++ L) := by
 have hq : i ∉ idOf s := by
  rcases H.hs with ⟨q1, q2⟩ | ⟨q, q1, q2, q3⟩
  ·rw [q1]; simp [idOf]
  ·obtain ⟨p1, p2, p4⟩ := H.q q1 q2
   rw [q1, YFm _ q2]
   simp only [idOf, List.mem_singleton]
   exact Ne.symm p2
 rw [QpM (h := YlR s h) (i := i) (fl := false) (cells := [.i .i64 lim, s, .i .i64 0]) (by rw [YAN hq]; exact H.hi) (o := 1) (show 2 ≤ 3 by decide) (by unfold apS; split <;> rfl) (ZGp _ _)]
 rfl
end
noncomputable def KHF : List AV → List AB → Option (AV × List AB)
 | [.p i 0, x, y], h => (getS XQp h x).bind fun enc => (getS intR h y).bind fun ns => if enc.length ≠ 0 ∧ enc.length ≤ 1000009 ∧ ns.length ≤ 1000 then vPut h i enc (ns.all fun n => decide (0 ≤ n)) else none
 | _, _ => none
theorem ZMs : Spec Try.prog 62 KHF := by
 intro args h v h' e
 unfold KHF at e
 split at e
 ·rename_i i x y
  obtain ⟨enc, hx, e⟩ := Kra e
  obtain ⟨ns, hy, e⟩ := Kra e
  split at e
  ·rename_i hc
   obtain ⟨n0, n1, n2⟩ := hc
   unfold vPut at e
   obtain ⟨lim, s, bs, er, H, e2⟩ := qOv e
   clear e
   dsimp only at e2
   cases e2
   refine FnAt.c (FnAt.run (by kernel_rfl) (T := ⟨[], []⟩) ⟨trivial, trivial⟩ Try.func62 sw62 fun ho hh => ?_)
   simp only [Z3W, Bool.and_eq_true] at ho
   have f1 := zW9 (qwo H)
   have fx := hx.fx ho.2.1 (sz := 1) rfl
   have fxs := hx.src (sz := 1) rfl
   have fy := hy.fx ho.2.2.1 (sz := 1) rfl
   have lz : ∀ k, (intR.f (ns.getD k intR.d))[0]? = some (AV.i .i64 (ns.getD k 0)) := fun _ => rfl
   have hl1 := H.hlim
   have hl2 := H.hlen
   have hso : s.ok (fun k => decide (k < h.length)) = true := by
    have := hh i _ H.hi
    simp only [blkV, AB.ok, Z3W, Bool.and_eq_true] at this
    exact this.2.1
   have hsl : s.isSl = true := by
    rcases H.hs with ⟨q1, q2⟩ | ⟨q, q1, q2, q3⟩
    ·rw [q1]; rfl
    ·rw [q1]; exact Jlo _ _
   have hsv : lenV s = some (bs.length : Int) := by
    rcases H.hs with ⟨q1, q2⟩ | ⟨q, q1, q2, q3⟩
    ·rw [q1, q2]; rfl
    ·rw [q1]; exact QHg _ _
   have s1 := QYh hsl
   have s2 := zZE hsl
   have s3 := YGb hsl
   have s4 : ∀ c lo hi anc past, s.ok (qOk (h.length + c) lo hi anc past) = true := fun c lo hi anc past => AV.ok_mono (fun k hk => qcC (by simp only [decide_eq_true_eq] at hk; omega)) s hso
   unfold w62
   by_cases g : er = 0
   case neg =>
    have g' := eq_false g
    have hw : wput lim bs er enc (ns.all fun n => decide (0 ≤ n)) = (bs, er) := by unfold wput; rw [if_neg g]
    rw [hw]
    simp only [Qfy, Q7I, qe2, qur, X6x, simprocAttr, CO.tmps, Opd.tmps, optT, Nat.reducePow, Nat.reduceDiv, Nat.reduceMod, f1, g', List.getElem?_cons_zero, List.getElem?_cons_succ, ne_eq, not_false_eq_true, decide_true]
    have q := qmT (P := Try.prog) (st := (bs, er)) (k := none) (d := 0) (L := []) H hh rfl (.i .i64 er) rfl
    rw [vX_0 H] at q
    exact q
   subst g
   have fe := YXT H
   have fl := fun st k L => Q7N H st k L
   simp only [Qfy, Q7I, qe2, qur, X6x, simprocAttr, CO.tmps, Opd.tmps, optT, Nat.reducePow, Nat.reduceDiv, Nat.reduceMod, f1, List.getElem?_cons_zero, List.getElem?_cons_succ, ne_eq, not_true_eq_false, decide_false]
   refine J4A (S := Nat) (fun k => ns.length - k) (fun k => [.p i 0, x, y] ++ tp 4 ++ [.i .i64 (k : Nat)] ++ tp 56) (fun k => k ≤ ns.length ∧ ∀ j, j < k → 0 ≤ ns.getD j 0) 0 ⟨Nat.zero_le _, fun j hj => absurd hj (Nat.not_lt_zero _)⟩ (by simp only [qe2, X6x, simprocAttr]) fun k hk => ?_
   obtain ⟨k1, k2⟩ := hk
   by_cases g5 : k < ns.length
   ·have g5' : ((k : Int) < (ns.length : Int)) = True := eq_true (by omega)
    have g6' : ((0 : Int) ≤ (k : Int) ∧ (k : Int) < (ns.length : Int)) = True := eq_true (by omega)
    have g7' := eq_true g5
    have w1 : IntKind.i64.wrap ((k : Int) + 1) = ((k + 1 : Nat) : Int) := zdT (by unfold In64; omega)
    by_cases g8 : ns.getD k 0 < 0
    ·have g8' := eq_true g8
     have ha : (ns.all fun n => decide (0 ≤ n)) = false := by
      rw [List.all_eq_false]
      exact ⟨ns.getD k 0, by rw [List.getD_eq_getElem?_getD, List.getElem?_eq_getElem g5]; exact List.getElem_mem g5, fun q => absurd (of_decide_eq_true q) (by omega)⟩
     have hw : wput lim bs 0 enc (ns.all fun n => decide (0 ≤ n)) = (bs, 3) := by rw [ha]; rfl
     rw [hw]
     simp only [qe2, qur, X6x, simprocAttr, CO.tmps, Opd.tmps, optT, Nat.reducePow, Nat.reduceDiv, Nat.reduceMod, f1, fy, lz, fe, fl, g5', g6', g7', g8', List.getElem?_cons_zero, List.getElem?_cons_succ]
     exact qmT (P := Try.prog) (st := (bs, 3)) (k := none) (d := 0) (L := []) H hh rfl (.i .i64 3) rfl
    ·have g8' := eq_false g8
     simp only [qe2, qur, X6x, simprocAttr, CO.tmps, Opd.tmps, optT, Nat.reducePow, Nat.reduceDiv, Nat.reduceMod, f1, fy, lz, g5', g6', g7', g8', w1, List.getElem?_cons_zero, List.getElem?_cons_succ]
     exact ⟨k + 1, ⟨g5, fun j hj => by
      rcases Nat.lt_or_ge j k with q | q
      ·exact k2 j q
      ·obtain rfl : j = k := by omega
       omega⟩, by omega, by simp only [qe2, X6x, simprocAttr]⟩
   ·have g5' : ((k : Int) < (ns.length : Int)) = False := eq_false (by omega)
    have ha : (ns.all fun n => decide (0 ≤ n)) = true := by
     rw [List.all_eq_true]
     intro n hn
     obtain ⟨j, hj, rfl⟩ := List.getElem_of_mem hn
     have := k2 j (by omega)
     rw [List.getD_eq_getElem?_getD, List.getElem?_eq_getElem hj] at this
     exact decide_eq_true this
    rw [ha]
    have w1 : IntKind.i64.wrap ((bs.length : Int) + (enc.length : Int)) = (bs.length : Int) + (enc.length : Int) := zdT (by unfold In64; omega)
    by_cases g2 : lim < (bs.length : Int) + (enc.length : Int)
    ·have g2' := eq_true g2
     have hw : wput lim bs 0 enc true = (bs, 4) := by unfold wput; rw [if_pos rfl, if_pos rfl, if_pos g2]
     rw [hw]
     simp only [qe2, qur, X6x, simprocAttr, CO.tmps, Opd.tmps, optT, Nat.reducePow, Nat.reduceDiv, Nat.reduceMod, f1, fx, fy, fe, fl, g5', g2', w1, s1, s2, s3, s4, hsv, List.getElem?_cons_zero, List.getElem?_cons_succ]
     exact qmT (P := Try.prog) (st := (bs, 4)) (k := none) (d := 0) (L := []) H hh rfl (.i .i64 4) rfl
    ·have g2' := eq_false g2
     have hw : wput lim bs 0 enc true = (bs ++ enc, 0) := by unfold wput; rw [if_pos rfl, if_pos rfl, if_neg g2]
     rw [hw]
     have fa := XAK H n0 n1
     have fst := XZo H
     simp only [qe2, qur, X6x, simprocAttr, CO.tmps, Opd.tmps, optT, Nat.reducePow, Nat.reduceDiv, Nat.reduceMod, f1, fx, fxs, fy, fe, fl, fa, fst, g5', g2', w1, s1, s2, s3, s4, hsv, qtp, List.getElem?_cons_zero, List.getElem?_cons_succ]
     exact qmT (st := (bs ++ enc, 0)) (k := some 0) (d := 0) H hh ⟨Nat.zero_le _, by rw [List.length_append]; omega, rfl⟩ (.i .i64 0) rfl
  ·cases e
 ·cases e
end Go.Proofs.Ytpoojfnmhnedpaa
end
section
namespace Go.Proofs.Ytpoojfnmhnedpaa
set_option maxRecDepth 100000
set_option maxHeartbeats 4000000
theorem Ysr {T : Env} {fr : List AV} {h : List AB} (x : Opd) : opR T (.s2b x) fr h = (match x.ev fr with
  | .s l => if l.length ≤ maxLen then some (.sl h.length 0 l.length l.length (some 1), h ++ [.blk true false (l.map fun b => .i .u8 (b.toNat : Int))]) else none
  | _ => none) := _root_.id rfl
theorem XOm (lim : Int) (bs : List UInt8) (er : Int) (a b : List UInt8) : wput lim bs er a false = wput lim bs er b false := by unfold wput; rfl
noncomputable def numV (id : Nat) (n : Int) : AV := if n < 192 then .sl id 0 1 1 none else apS XQp id (Jmv n)
theorem X41 {n : Int} (h : n < 192) : (Jmv n).length = 1 := by
 unfold Jmv
 rw [if_pos (by unfold XDt; rw [if_pos h])]
 rfl
theorem Xca {h L : List AB} {k : Nat} {n : Int} (hb : L[k]? = some (resB XQp true (Jmv n))) : getS XQp (h ++ L) (numV (h.length + k) n) = some (Jmv n) := by
 have n0 := zt3 n
 have n1 := q1l n
 have hg : (h ++ L)[h.length + k]? = some (resB XQp true (Jmv n)) := by rw [zSD]; exact hb
 unfold numV
 by_cases g : n < 192
 ·rw [if_pos g]
  have hl := X41 g
  have hr : qhl (h ++ L) (h.length + k) = some (XQp.cells (Jmv n)) := by unfold qhl; rw [hg, qgk n0]
  have hc : (XQp.cells (Jmv n)).length = 1 := by rw [XQp.cells_len, ZGD, hl]
  exact (Rd.mk_sl (r := XQp) (l := Jmv n) hr hl.symm (by rw [hc, hl, ZGD]; decide) (by rw [hl, ZGD, List.drop_zero, List.take_of_length_le (by rw [hc]; decide)]) (by unfold maxLen; omega)).get
 ·rw [if_neg g, JeD _ n0]
  exact (zpN hg (by unfold maxLen; omega)).get
noncomputable def QJY : List AV → List AB → Option (AV × List AB)
 | [.p i 0, .i .i64 n], h => if In64 n then vPut h i (Jmv n) (decide (0 ≤ n)) else none
 | _, _ => none
theorem zDi : Spec Try.prog 45 QJY := by
 intro args h v h' e
 unfold QJY at e
 split at e
 ·rename_i i n
  split at e
  ·rename_i hn
   unfold vPut at e
   obtain ⟨lim, s, bs, er, H, e2⟩ := qOv e
   clear e
   cases e2
   dsimp only
   refine FnAt.c (FnAt.run (by kernel_rfl) (T := ⟨[⟨63, KZV, fun _ => []⟩, ⟨62, KHF, fun _ => []⟩], []⟩) ⟨⟨qdV, ZMs, trivial⟩, trivial⟩ Try.func45 sw45 fun ho hh => ?_)
   obtain ⟨m, hm⟩ : ∃ m, m = (if 0 > n then (0 : Int) else n) := ⟨_, rfl⟩
   have m0 : 0 ≤ m := by rw [hm]; split <;> omega
   have m1 : m ≤ 9223372036854775807 := by unfold In64 at hn; rw [hm]; split <;> omega
   have m0' := eq_true m0
   have m1' := eq_true m1
   have e3 : mmV true (.i .i64 n) (.i .i64 0) = some (.i .i64 m) := by rw [hm]; rfl
   have n0 := zt3 m
   have n1 := q1l m
   have nv : ∀ id, (if m < 192 then AV.sl id 0 1 1 none else apS XQp id (Jmv m)) = numV id m := fun id => rfl
   have gx : getS XQp (h ++ [resB XQp true (Jmv m), .blk true true [.i .i64 n]]) (numV (h.length + 0) m) = some (Jmv m) := Xca rfl
   have gy : getS intR (h ++ [resB XQp true (Jmv m), .blk true true [.i .i64 n]]) (.sl (h.length + 1) 0 1 1 none) = some [n] := (Yz2 (r := intR) (L := [resB XQp true (Jmv m), .blk true true [.i .i64 n]]) (k := 1) (c := 1) (kk := none) (l := [n]) (by simp only [JTL, JoO]; rfl) (show 1 ≤ maxLen by unfold maxLen; decide)).get
   obtain ⟨k, R, q1, q2, q3⟩ := Qh2 (D := []) (R := [resB XQp true (Jmv m), .blk true true [.i .i64 n]]) H (st := (bs, er)) (k := none) rfl H.hlen (Jmv m) (decide (0 ≤ n))
   rw [vX_0 H] at q1
   have hw : wput lim bs er (Jmv m) (decide (0 ≤ n)) = wput lim bs er (Jmv n) (decide (0 ≤ n)) := by
    by_cases q : 0 ≤ n
    ·rw [hm, if_neg (by omega)]
    ·rw [decide_eq_false q]
     exact XOm _ _ _ _ _
   dsimp only at q1 q2 q3
   rw [hw] at q1 q2 q3
   have tp : KHF [.p i 0, numV (h.length + 0) m, .sl (h.length + 1) 0 1 1 none] (h ++ [resB XQp true (Jmv m), .blk true true [.i .i64 n]]) = some (.i .i64 (wput lim bs er (Jmv n) (decide (0 ≤ n))).2, vX h i lim s (wput lim bs er (Jmv n) (decide (0 ≤ n))) k ++ R) := by
    unfold KHF
    simp only [gx, gy, Option.bind_some]
    rw [if_pos ⟨n0, by omega, show 1 ≤ 1000 by decide⟩, show ([n].all fun n => decide (0 ≤ n)) = decide (0 ≤ n) from Bool.and_true _]
    exact q1
   unfold w45
   simp only [Qfy, Q7I, qe2, qur, X6x, simprocAttr, CO.tmps, Opd.tmps, optT, Nat.reducePow, Nat.reduceDiv, Nat.reduceMod, e3, m0', m1', nv, tp, KZV]
   exact qmT H hh q2 _ rfl
  ·cases e
 ·cases e
noncomputable def bytV (id : Nat) (l : List UInt8) : AV := if l.length = 0 then .sl id 0 1 1 none else apS XQp id (Jmv l.length ++ l)
noncomputable def KlH : List AV → List AB → Option (AV × List AB)
 | [x], h => (getS XQp h x).bind fun l => if l.length ≤ 1000000 then some (bytV h.length l, h ++ [resB XQp true (Jmv l.length ++ l)]) else none
 | _, _ => none
theorem X16 : Spec Try.prog 64 KlH := by
 intro args h v h' e
 unfold KlH at e
 split at e
 ·rename_i x
  obtain ⟨l, hx, e⟩ := Kra e
  split at e
  ·rename_i hl
   cases e
   refine FnAt.c (FnAt.run (by kernel_rfl) (T := ⟨[⟨63, KZV, fun _ => []⟩], []⟩) ⟨⟨qdV, trivial⟩, trivial⟩ Try.func64 sw64 fun ho hh => ?_)
   simp only [Z3W, Bool.and_eq_true] at ho
   have fx := hx.fx ho.1 (sz := 1) rfl
   have fs := hx.src (sz := 1) rfl
   have m0' : ((0 : Int) ≤ (l.length : Int)) = True := eq_true (by omega)
   have m1' : ((l.length : Int) ≤ 9223372036854775807) = True := eq_true (by omega)
   have n0 := zt3 (l.length : Int)
   have n1 := q1l (l.length : Int)
   unfold w64
   by_cases h0 : l.length = 0
   ·have hb : l = [] := List.eq_nil_of_length_eq_zero h0
    subst hb
    have fa : ∀ ys, appW (h ++ [resB XQp true (Jmv 0)]) true 1 1 (.sl (h.length + 0) 0 1 1 none) 0 ys = some (.sl (h.length + 0) 0 1 1 none, h ++ [resB XQp true (Jmv 0)]) := fun ys => by
     simp only [appW]
     rw [if_pos trivial]
    have g0 : ((0 : Int) < 192) = True := eq_true (by decide)
    simp only [Qfy, Q7I, qe2, qur, X6x, simprocAttr, CO.tmps, Opd.tmps, optT, Nat.reducePow, Nat.reduceDiv, Nat.reduceMod, fx, fs, fa, g0, qtp, KZV, List.length_nil, Int.natCast_zero, Int.le_refl]
    exact Bt.eq rfl rfl
   ·have h0' := eq_false h0
    have hv : bytV h.length l = .sl h.length 0 ((Jmv l.length).length + l.length) ((Jmv l.length).length + l.length) (some 1) := by
     unfold bytV
     rw [if_neg h0, YFm _ (by rw [List.length_append]; omega), List.length_append]
    have hB : resB XQp true (Jmv l.length ++ l) = .blk true true (XQp.cells (Jmv l.length) ++ XQp.cells l) := by
     rw [qgk (by rw [List.length_append]; omega), Kbg, Kbg, Kbg, List.map_append]
    rw [hv, hB]
    by_cases g : (l.length : Int) < 192
    ·have g' := eq_true g
     have lo := X41 g
     have fa : ∀ ys, appW (h ++ [resB XQp true (Jmv l.length)]) true 1 1 (.sl (h.length + 0) 0 1 1 none) l.length ys = some (.sl (h.length + 1) 0 (1 + l.length) (1 + l.length) (some 1), h ++ [resB XQp true (Jmv l.length), .blk true true (XQp.cells (Jmv l.length) ++ ys)]) := fun ys =>
      JYI (h := h) [resB XQp true (Jmv l.length)] 0 1 l.length (XQp.cells (Jmv l.length)) ys true (by rw [qgk n0]; rfl) (by rw [XQp.cells_len, ZGD, lo]) h0 (by omega)
     simp only [Qfy, Q7I, qe2, qur, X6x, simprocAttr, CO.tmps, Opd.tmps, optT, Nat.reducePow, Nat.reduceDiv, Nat.reduceMod, fx, fs, fa, g', m0', m1', lo, qtp, KZV]
     exact Bt.sel [1] hh (by decide) (by simp only [XQy, FrSel, BlkSel, AV.ren, renL, AV.ok, okL, Option.some.injEq, exists_eq_left', List.length_cons, List.length_nil, Nat.reduceAdd, Nat.reduceLT, reduceCtorEq, implies_true, exists_eq']) (by simp only [XQy, FrSel, BlkSel, AV.ren, renL, AV.ok, okL, Option.some.injEq, exists_eq_left', List.length_cons, List.length_nil, Nat.reduceAdd, Nat.reduceLT, reduceCtorEq, implies_true, exists_eq'])
    ·have g' := eq_false g
     have fa := fun L k ys hb => J5e (h := h) (p := h.length) rfl (r := XQp) (sz := 1) rfl L k (Jmv l.length) 1 l.length ys hb h0 (by omega) (by unfold maxLen; omega)
     simp only [Qfy, Q7I, qe2, qur, X6x, simprocAttr, CO.tmps, Opd.tmps, optT, Nat.reducePow, Nat.reduceDiv, Nat.reduceMod, fx, fs, fa, g', m0', m1', qtp, KZV]
     exact Bt.sel [1] hh (by decide) (by simp only [XQy, FrSel, BlkSel, AV.ren, renL, AV.ok, okL, Option.some.injEq, exists_eq_left', List.length_cons, List.length_nil, Nat.reduceAdd, Nat.reduceLT, reduceCtorEq, implies_true, exists_eq']) (by simp only [XQy, FrSel, BlkSel, AV.ren, renL, AV.ok, okL, Option.some.injEq, exists_eq_left', List.length_cons, List.length_nil, Nat.reduceAdd, Nat.reduceLT, reduceCtorEq, implies_true, exists_eq'])
  ·cases e
 ·cases e
theorem YUd {h L : List AB} {k : Nat} {l : List UInt8} (hl : l.length ≤ 1000000) (hb : L[k]? = some (resB XQp true (Jmv l.length ++ l))) : getS XQp (h ++ L) (bytV (h.length + k) l) = some (Jmv l.length ++ l) := by
 unfold bytV
 by_cases g : l.length = 0
 ·have hb' : l = [] := List.eq_nil_of_length_eq_zero g
  subst hb'
  rw [List.append_nil] at hb ⊢
  have := Xca (h := h) (n := 0) hb
  unfold numV at this
  rw [if_pos (by decide)] at this
  exact this
 ·have n1 := q1l (l.length : Int)
  rw [if_neg g, JeD _ (by rw [List.length_append]; omega)]
  exact (zpN (by rw [zSD]; exact hb) (by rw [List.length_append]; unfold maxLen; omega)).get
noncomputable def JxU : List AV → List AB → Option (AV × List AB)
 | [.p i 0, .s l], h => if l.length ≤ 1000000 then vPut h i (Jmv l.length ++ l) true else none
 | _, _ => none
theorem qT9 : Spec Try.prog 46 JxU := by
 intro args h v h' e
 unfold JxU at e
 split at e
 ·rename_i i l
  split at e
  ·rename_i hl
   unfold vPut at e
   obtain ⟨lim, s, bs, er, H, e2⟩ := qOv e
   clear e
   cases e2
   dsimp only
   refine FnAt.c (FnAt.run (by kernel_rfl) (T := ⟨[⟨64, KlH, fun _ => []⟩, ⟨62, KHF, fun _ => []⟩], []⟩) ⟨⟨X16, ZMs, trivial⟩, trivial⟩ Try.func46 sw46 fun ho hh => ?_)
   have n1 := q1l (l.length : Int)
   have n0 := zt3 (l.length : Int)
   have lm : (l.length ≤ maxLen) = True := eq_true (by unfold maxLen; omega)
   have ll := eq_true hl
   obtain ⟨C, hC⟩ : ∃ C, C = AB.blk true false (l.map fun b => AV.i .u8 (b.toNat : Int)) := ⟨_, rfl⟩
   have gs : getS XQp (h ++ [C]) (.sl (h.length + 0) 0 l.length l.length (some 1)) = some l := (Yz2 (r := XQp) (L := [C]) (k := 0) (c := l.length) (kk := some 1) (l := l) (by rw [hC, Kbg]; rfl) (by unfold maxLen; omega)).get
   have gx : getS XQp (h ++ [C, resB XQp true (Jmv l.length ++ l)]) (bytV (h.length + 1) l) = some (Jmv l.length ++ l) := YUd hl rfl
   obtain ⟨k, R, q1, q2, q3⟩ := Qh2 (D := []) (R := [C, resB XQp true (Jmv l.length ++ l)]) H (st := (bs, er)) (k := none) rfl H.hlen (Jmv l.length ++ l) true
   rw [vX_0 H] at q1
   have tp : KHF [.p i 0, bytV (h.length + 1) l, .ns] (h ++ [C, resB XQp true (Jmv l.length ++ l)]) = some (.i .i64 (wput lim bs er (Jmv l.length ++ l) true).2, vX h i lim s (wput lim bs er (Jmv l.length ++ l) true) k ++ R) := by
    unfold KHF
    simp only [gx, Jpk, Option.bind_some]
    rw [if_pos ⟨by rw [List.length_append]; omega, by rw [List.length_append]; omega, by decide⟩]
    exact q1
   unfold w46
   simp only [Qfy, Q7I, qe2, qur, X6x, simprocAttr, CO.tmps, Opd.tmps, optT, Nat.reducePow, Nat.reduceDiv, Nat.reduceMod, Ysr, lm, ll, ← hC, gs, tp, KlH]
   exact qmT H hh q2 _ rfl
  ·cases e
 ·cases e
noncomputable def qMc : List AV → List AB → Option (AV × List AB)
 | [.p i 0, a], h => (Yhm a).bind fun d => vPut h i d.l true
 | _, _ => none
theorem K7e : Spec Try.prog 65 qMc := by
 intro args h v h' e
 unfold qMc at e
 split at e
 ·rename_i i a
  obtain ⟨d, hd, e2⟩ := Option.bind_eq_some_iff.1 e
  clear e
  obtain rfl := Jqk hd
  unfold vPut at e2
  obtain ⟨lim, s, bs, er, H, e3⟩ := qOv e2
  clear e2
  cases e3
  refine FnAt.c (FnAt.run (by kernel_rfl) (T := ⟨[⟨62, KHF, fun _ => []⟩], []⟩) ⟨⟨ZMs, trivial⟩, trivial⟩ Try.func65 sw65 fun ho hh => ?_)
  obtain ⟨b1, b2, b3, b4, b5⟩ := ZrQ d.h
  rw [show d.l.map u8A = idR.f d from rfl] at *
  have gx : getS XQp (h ++ [.blk true true (idR.f d)]) (.sl (h.length + 0) 0 32 32 none) = some d.l := by
   have := (Yz2 (r := XQp) (h := h) (L := [.blk true true (idR.f d)]) (k := 0) (c := 32) (kk := none) (l := d.l) (by rw [Kbg]; rfl) (by rw [d.h]; decide)).get
   rw [d.h] at this
   exact this
  obtain ⟨k, R, q1, q2, q3⟩ := Qh2 (D := []) (R := [.blk true true (idR.f d)]) H (st := (bs, er)) (k := none) rfl H.hlen d.l true
  rw [vX_0 H] at q1
  have tp : KHF [.p i 0, .sl (h.length + 0) 0 32 32 none, .ns] (h ++ [.blk true true (idR.f d)]) = some (.i .i64 (wput lim bs er d.l true).2, vX h i lim s (wput lim bs er d.l true) k ++ R) := by
   unfold KHF
   simp only [gx, Jpk, Option.bind_some]
   rw [if_pos ⟨by rw [d.h]; decide, by rw [d.h]; decide, by decide⟩]
   exact q1
  unfold w65
  simp only [Qfy, Q7I, qe2, qur, X6x, simprocAttr, CO.tmps, Opd.tmps, optT, Nat.reducePow, Nat.reduceDiv, Nat.reduceMod, Y6S, Yqp, Option.map_none, b1, b2, b3, tp]
  exact qmT H hh q2 _ rfl
 ·cases e
noncomputable def QtB : List AV → List AB → Option (AV × List AB)
 | [.p i 0, a], h => (Z5f a).bind fun d => open Classical in if DB d then vSeq (fun lim st => wD lim st d.de) h i else none
 | _, _ => none
theorem zQi : Spec Try.prog 47 QtB := by
 intro args h v h' e
 unfold QtB at e
 split at e
 ·rename_i i a
  obtain ⟨d, hd, e2⟩ := Option.bind_eq_some_iff.1 e
  clear e
  obtain rfl := JPQ hd
  split at e2
  ·rename_i hdb
   unfold vSeq at e2
   obtain ⟨lim, s, bs, er, H, e3⟩ := qOv e2
   clear e2
   cases e3
   dsimp only
   refine FnAt.c (FnAt.run (by kernel_rfl) (T := ⟨[⟨45, QJY, fun _ => []⟩, ⟨65, qMc, fun _ => []⟩, ⟨46, JxU, fun _ => []⟩], []⟩) ⟨⟨zDi, K7e, qT9, trivial⟩, trivial⟩ Try.func47 sw47 fun ho hh => ?_)
   obtain ⟨b1, b2, b3, b4, b5⟩ := KoS d
   obtain ⟨k1, R1, q1, I1, l1⟩ := Qh2 (D := [.blk true true (deR.f d)]) (R := []) H (st := (bs, er)) (k := none) rfl H.hlen (Jmv d.media) (decide (0 ≤ d.media))
   obtain ⟨k2, R2, q2, I2, l2⟩ := Qh2 H I1 l1 d.id.l true
   obtain ⟨k3, R3, q3, I3, l3⟩ := Qh2 H I2 l2 (Jmv d.size) (decide (0 ≤ d.size))
   obtain ⟨k4, R4, q4, I4, l4⟩ := Qh2 H I3 l3 (Jmv d.plat.length ++ d.plat) true
   rw [vX_0 H] at q1
   dsimp only [List.singleton_append] at q1 q2 q3 q4
   have d1 := eq_true hdb.1
   have d2 := eq_true hdb.2.1
   have d3 := eq_true hdb.2.2
   obtain ⟨c1, c2, c3, c4⟩ := Q98 d
   have gid := QSu d.id
   have wl := fun st k => KBh (h := h) (i := i) (lim := lim) (s := s) st k
   unfold w47
   simp only [Qfy, Q7I, qe2, qur, X6x, simprocAttr, CO.tmps, Opd.tmps, optT, Nat.reducePow, Nat.reduceDiv, Nat.reduceMod, Q3v, JFu, wl, b1, b3, c1, c2, c3, c4, gid, d1, d2, d3, q1, q2, q3, q4, QJY, qMc, JxU]
   exact qmT H hh I4 _ rfl
  ·cases e2
 ·cases e
end Go.Proofs.Ytpoojfnmhnedpaa
end
