/- Part 20 of what the laws' proofs rest on. No condition. -/
import Derived.Test.YtpoojfnmhnedpaaMd19
set_option linter.all false
section
namespace Go.Proofs.Ytpoojfnmhnedpaa
set_option maxRecDepth 100000
set_option maxHeartbeats 4000000
section
variable {P : Program} {h : List AB} {id n : Nat}
def topB (n : Nat) : AB := .blk true true (List.replicate n .top)
theorem Bt.top {p : Nat} {fr : List AV} {xs : List AV} (hi : h[id]? = some (.blk true true xs)) (hn : xs.length = n) : Bt P p fr h fr (h.set id (topB n)) := by
 refine Bt.less hi (fun ρ w b o m hb => ?_) (fun _ => rfl) (fun _ => rfl)
 obtain ⟨cs, e, fz, h1, h2, h3, _⟩ := hb
 refine ⟨cs, e, fz, h1, h2, by rw [List.length_replicate]; omega, fun k a c ha _ => ?_⟩
 rw [List.getElem?_replicate] at ha
 split at ha
 ·cases ha
  exact .top c
 ·cases ha
theorem zmr (hid : id < h.length) (x : List AB) (o m : Nat) (l : List AV) (hl : l.length = m) (hf : l.all (wrOk true) = true) (ho : o + m ≤ n) : stV (h.set id (topB n) ++ x) (some m) (.p id o) (.ag l) = some (h.set id (.blk true true (over (List.replicate n .top) o l)) ++ x) := by
 have hb : (h.set id (.blk true true (List.replicate n .top)) ++ x)[id]? = some (.blk true true (List.replicate n .top)) := by
  rw [List.getElem?_append_left (by rw [List.length_set]; exact hid), List.getElem?_set_self hid]
 simp only [stV, hl, if_true, stB, topB, hb]
 rw [if_pos ⟨by simp; omega, hf⟩]
 congr 1
 rw [List.set_append_left _ _ (by rw [List.length_set]; exact hid), List.set_set]
theorem Q1p {p : Nat} {fr fr' : List AV} (hid : id < h.length) (x : List AB) (o : Nat) (l : List AV) (ho : o + l.length ≤ n) (hw : WkL fr' fr) : Bt P p fr (h.set id (.blk true true (over (List.replicate n .top) o l)) ++ x) fr' (h.set id (topB n) ++ x) := by
 refine Bt.trans (Bt.wk hw) ?_
 have := Bt.top (P := P) (p := p) (fr := fr') (h := h.set id (.blk true true (over (List.replicate n .top) o l)) ++ x) (id := id) (n := n) (xs := over (List.replicate n .top) o l) (by rw [List.getElem?_append_left (by rw [List.length_set]; exact hid), List.getElem?_set_self hid]) (by rw [Kmx _ _ _ (by simp; omega)]; simp)
 rwa [List.set_append_left _ _ (by rw [List.length_set]; exact hid), List.set_set] at this
theorem K1X {p : Nat} {fr fr' : List AV} {xs : List AV} (hi : h[id]? = some (.blk true true xs)) (hn : xs.length = n) (x : List AB) (hw : WkL fr' fr) : Bt P p fr (h ++ x) fr' (h.set id (topB n) ++ x) := by
 have hid := (List.getElem?_eq_some_iff.1 hi).1
 refine Bt.trans (Bt.wk hw) ?_
 have := Bt.top (P := P) (p := p) (fr := fr') (h := h ++ x) (id := id) (n := n) (xs := xs) (by rw [List.getElem?_append_left hid]; exact hi) hn
 rwa [List.set_append_left _ _ hid] at this
theorem J3Z {p : Nat} {fr : List AV} {B : AB} (hi : h[id]? = some B) (x : List AB) : Bt P p fr (h ++ x) fr (h.set id .dead ++ x) := by
 have hid := (List.getElem?_eq_some_iff.1 hi).1
 have := Bt.less (P := P) (p := p) (fr := fr) (h := h ++ x) (i := id) (B := B) (B' := .dead) (by rw [List.getElem?_append_left hid]; exact hi) (fun _ _ _ _ _ _ => trivial) (fun q => by cases q) (fun q => by cases q)
 rwa [List.set_append_left _ _ hid] at this
theorem JY2 (hh : HOk h) (id : Nat) : HOk (h.set id .dead) := by
 intro k B hB
 rw [List.length_set]
 by_cases q : k = id
 ·subst q
  rw [List.getElem?_set] at hB
  split at hB
  ·split at hB
   ·cases hB
    rfl
   ·cases hB
  ·exact absurd rfl (by assumption)
 ·rw [List.getElem?_set_ne (Ne.symm q)] at hB
  exact hh k B hB
theorem q7t {j : Nat} {G : List AB} (hh : HOk h) (hG : (G.set id .dead).set j .dead = (h.set id .dead).set j .dead) (hi : ∃ B, G[id]? = some B) (hj : ∃ B, (G.set id .dead)[j]? = some B) (x : List AB) : Bt P h.length [.tu []] (G ++ x) [.tu []] ((h.set id .dead).set j .dead) := by
 obtain ⟨B, hB⟩ := hi
 obtain ⟨C, hC⟩ := hj
 refine Bt.trans (J3Z hB x) (Bt.trans (J3Z hC x) ?_)
 rw [hG]
 have := Bt.drop (P := P) (v := .tu []) (a := .tu []) x (JY2 (JY2 hh id) j) rfl rfl
 rw [List.length_set, List.length_set] at this
 exact this
end
def YyC : List AV := .i .i64 (-7) :: (deR.f (dsc deZ)).drop 1
open Classical in
noncomputable def Yyp : List AV → List AB → Option (AV × List AB)
 | [a], h => (inM h a).bind fun y => match idOf y.2.2.2.1, idOf y.2.2.2.2.1 with
  | [i], [j] => if y.2.2.2.1 = rsl deR i y.2.2.2.2.2.1 ∧ h[i]? = some (resB deR true y.2.2.2.2.2.1) ∧ y.2.2.2.2.1 = rsl deR j y.2.2.2.2.2.2 ∧ h[j]? = some (resB deR true y.2.2.2.2.2.2) ∧ i ≠ j ∧ y.2.2.2.2.2.1.length ≤ 1000000 ∧ y.2.2.2.2.2.2.length ≤ 1000000 then some (.tu [], (h.set i .dead).set j .dead) else none
  | _, _ => none
 | _, _ => none
theorem zqJ : Spec Try.prog 22 Yyp := by
 intro args h v h' e
 unfold Yyp at e
 split at e
 ·rename_i a
  obtain ⟨k0, t, c, l, s, ls, ss, rfl, hl, hs, e1⟩ := q2F e
  clear e
  dsimp only at e1
  split at e1
  ·rename_i i j hi0 hj0
   split at e1
   ·rename_i hc
    cases e1
    obtain ⟨q1, h1, q2, h2, hne, n1, n2⟩ := hc
    subst q1 q2
    clear hl hs hi0 hj0
    have l1 := (List.getElem?_eq_some_iff.1 h1).1
    have l2 := (List.getElem?_eq_some_iff.1 h2).1
    refine FnAt.c (FnAt.run (by kernel_rfl) (T := ⟨[], []⟩) ⟨trivial, trivial⟩ Try.func22 sw22 fun ho hh => ?_)
    obtain ⟨c1, c2, c3, c4⟩ := KM0 c (rsl deR i ls) (rsl deR j ss)
    have ca := YNe c (X2b (r := deR) i ls) (X2b (r := deR) j ss)
    have tm : ((deR.f c ++ [rsl deR i ls, rsl deR j ss]).take 37) = deR.f c ++ [rsl deR i ls, rsl deR j ss] := List.take_of_length_le (by omega)
    have li : ∀ (n k : Nat), k < n → iadV 35 (.sl i 0 n n (some 35)) (.i .i64 (k : Nat)) = some (.p i (0 + k * 35)) := fun n k hk => by
     simp only [iadV]
     rw [if_pos ⟨by omega, by omega⟩, Int.toNat_natCast]
    have lj : ∀ (n k : Nat), k < n → iadV 35 (.sl j 0 n n (some 35)) (.i .i64 (k : Nat)) = some (.p j (0 + k * 35)) := fun n k hk => by
     simp only [iadV]
     rw [if_pos ⟨by omega, by omega⟩, Int.toNat_natCast]
    have hlen : ∀ (G : List AB) (k : Nat) (B : AB), (G.set k B).length = G.length := fun G k B => List.length_set
    have w1 : ∀ k : Nat, k < 1000000 → IntKind.i64.wrap ((k : Int) + 1) = ((k + 1 : Nat) : Int) := fun k hk => KqM (by unfold In64; omega)
    obtain ⟨box, hbox⟩ : ∃ box, box = AB.blk false true (.i .i64 k0 :: .s t :: (deR.f c ++ [rsl deR i ls, rsl deR j ss])) := ⟨_, rfl⟩
    unfold w22
    simp only [JaG, Qv6, Zsz, qtO, quq, simprocAttr, CO.tmps, Opd.tmps, optT, Nat.reducePow, Nat.reduceDiv, Nat.reduceMod, c1, c2, c3, ca, tm]
    by_cases z1 : ls.length = 0
    ·refine KIk (S := Unit) (fun _ => 0) (fun _ => tp 1 ++ [.p (h.length + 0) 0, .i .i64 ((0 : Nat) : Int)] ++ tp 25) (fun _ => True) () trivial (by simp only [Zsz, quq, simprocAttr]) fun _ _ => ?_
     have e10 : lenV (rsl deR i ls) = some 0 := by rw [QeR, z1]; rfl
     simp only [JaG, Qv6, Zsz, qtO, quq, simprocAttr, CO.tmps, Opd.tmps, optT, Nat.reducePow, Nat.reduceDiv, Nat.reduceMod, QjP, Yzo, hlen, c1, c2, c3, ca, tm, e10, Int.natCast_zero, Int.lt_irrefl, false_implies]
     by_cases z2 : ss.length = 0
     ·refine KIk (S := Unit) (fun _ => 0) (fun _ => tp 1 ++ [.p (h.length + 0) 0] ++ tp 1 ++ [.i .i64 ((0 : Nat) : Int)] ++ tp 24) (fun _ => True) () trivial (by simp only [Zsz, quq, simprocAttr]) fun _ _ => ?_
      have e20 : lenV (rsl deR j ss) = some 0 := by rw [QeR, z2]; rfl
      simp only [JaG, Qv6, Zsz, qtO, quq, simprocAttr, CO.tmps, Opd.tmps, optT, Nat.reducePow, Nat.reduceDiv, Nat.reduceMod, QjP, Yzo, hlen, c1, c2, c3, ca, tm, e20, Int.natCast_zero, Int.lt_irrefl, false_implies]
      exact q7t hh (rfl) ⟨_, List.getElem?_eq_getElem (by first | exact l1 | (simp only [List.length_set]; exact l1))⟩ ⟨_, List.getElem?_eq_getElem (by simp only [List.length_set]; exact l2)⟩ _
     ·have hb2 : h[j]? = some (.blk true true (deR.cells ss)) := by rw [h2]; unfold resB; rw [if_neg z2]
      have hlt2 : j < h.length := (List.getElem?_eq_some_iff.1 hb2).1
      refine JRq (S := Nat) (fun k => ss.length - k) (fun k => tp 1 ++ [.p (h.length + 0) 0] ++ tp 1 ++ [.i .i64 (k : Nat)] ++ tp 24) (fun _ => (h.set j (topB (ss.length * 35))) ++ [AB.blk false true (.i .i64 k0 :: .s t :: (deR.f c ++ [rsl deR i ls, rsl deR j ss]))]) (fun k => k ≤ ss.length) 0 (Nat.zero_le _) (K1X hb2 (deR.cells_len ss) _ (by simp only [Zsz, quq, simprocAttr])) fun k hk => ?_
      have r2 : rsl deR j ss = .sl j 0 ss.length ss.length (some 35) := by unfold rsl; rw [if_neg z2]; rfl
      have e20 : lenV (rsl deR j ss) = some (ss.length : Int) := QeR _ _
      by_cases hlk : k < ss.length
      ·have g1 : ((k : Int) < (ss.length : Int)) = True := eq_true (by omega)
       have e1 := w1 k (by omega)
       have e3 := zmr (n := ss.length * 35) hlt2 [AB.blk false true (.i .i64 k0 :: .s t :: (deR.f c ++ [rsl deR i ls, rsl deR j ss]))] (0 + k * 35) 35 YyC rfl rfl (by omega)
       have e4 := lj ss.length k hlk
       simp only [YyC, KO7, List.drop_succ_cons, List.drop_zero] at e3
       rw [← r2] at e4
       simp only [JaG, Qv6, Zsz, qtO, quq, simprocAttr, CO.tmps, Opd.tmps, optT, Nat.reducePow, Nat.reduceDiv, Nat.reduceMod, QjP, Yzo, hlen, c1, c2, c3, ca, tm, e20, g1, e1, e4, e3, false_implies]
       exact ⟨k + 1, by omega, by dsimp only; omega, Q1p hlt2 _ _ _ (by simp only [List.length_cons, List.length_nil]; omega) (by simp only [Zsz, quq, simprocAttr])⟩
      ·have g1 : ((k : Int) < (ss.length : Int)) = False := eq_false (by omega)
       simp only [JaG, Qv6, Zsz, qtO, quq, simprocAttr, CO.tmps, Opd.tmps, optT, Nat.reducePow, Nat.reduceDiv, Nat.reduceMod, QjP, Yzo, hlen, c1, c2, c3, ca, tm, e20, g1, false_implies]
       exact q7t hh (by rw [List.set_comm _ _ (Ne.symm hne), List.set_set]) ⟨_, List.getElem?_eq_getElem (by first | exact l1 | (simp only [List.length_set]; exact l1))⟩ ⟨_, List.getElem?_eq_getElem (by simp only [List.length_set]; exact l2)⟩ _
    ·have hb1 : h[i]? = some (.blk true true (deR.cells ls)) := by rw [h1]; unfold resB; rw [if_neg z1]
     have hlt1 : i < h.length := (List.getElem?_eq_some_iff.1 hb1).1
     refine JRq (S := Nat) (fun k => ls.length - k) (fun k => tp 1 ++ [.p (h.length + 0) 0, .i .i64 (k : Nat)] ++ tp 25) (fun _ => (h.set i (topB (ls.length * 35))) ++ [AB.blk false true (.i .i64 k0 :: .s t :: (deR.f c ++ [rsl deR i ls, rsl deR j ss]))]) (fun k => k ≤ ls.length) 0 (Nat.zero_le _) (K1X hb1 (deR.cells_len ls) _ (by simp only [Zsz, quq, simprocAttr])) fun k hk => ?_
     have r1 : rsl deR i ls = .sl i 0 ls.length ls.length (some 35) := by unfold rsl; rw [if_neg z1]; rfl
     have e10 : lenV (rsl deR i ls) = some (ls.length : Int) := QeR _ _
     by_cases hlk : k < ls.length
     ·have g1 : ((k : Int) < (ls.length : Int)) = True := eq_true (by omega)
      have e1 := w1 k (by omega)
      have e3 := zmr (n := ls.length * 35) hlt1 [AB.blk false true (.i .i64 k0 :: .s t :: (deR.f c ++ [rsl deR i ls, rsl deR j ss]))] (0 + k * 35) 35 YyC rfl rfl (by omega)
      have e4 := li ls.length k hlk
      simp only [YyC, KO7, List.drop_succ_cons, List.drop_zero] at e3
      rw [← r1] at e4
      simp only [JaG, Qv6, Zsz, qtO, quq, simprocAttr, CO.tmps, Opd.tmps, optT, Nat.reducePow, Nat.reduceDiv, Nat.reduceMod, QjP, Yzo, hlen, c1, c2, c3, ca, tm, e10, g1, e1, e4, e3, false_implies]
      exact ⟨k + 1, by omega, by dsimp only; omega, Q1p hlt1 _ _ _ (by simp only [List.length_cons, List.length_nil]; omega) (by simp only [Zsz, quq, simprocAttr])⟩
     ·have g1 : ((k : Int) < (ls.length : Int)) = False := eq_false (by omega)
      simp only [JaG, Qv6, Zsz, qtO, quq, simprocAttr, CO.tmps, Opd.tmps, optT, Nat.reducePow, Nat.reduceDiv, Nat.reduceMod, QjP, Yzo, hlen, c1, c2, c3, ca, tm, e10, g1, false_implies]
      by_cases z2 : ss.length = 0
      ·refine KIk (S := Unit) (fun _ => 0) (fun _ => tp 1 ++ [.p (h.length + 0) 0] ++ tp 1 ++ [.i .i64 ((0 : Nat) : Int)] ++ tp 24) (fun _ => True) () trivial (by simp only [Zsz, quq, simprocAttr]) fun _ _ => ?_
       have e20 : lenV (rsl deR j ss) = some 0 := by rw [QeR, z2]; rfl
       simp only [JaG, Qv6, Zsz, qtO, quq, simprocAttr, CO.tmps, Opd.tmps, optT, Nat.reducePow, Nat.reduceDiv, Nat.reduceMod, QjP, Yzo, hlen, c1, c2, c3, ca, tm, e20, Int.natCast_zero, Int.lt_irrefl, false_implies]
       exact q7t hh (by rw [List.set_set]) ⟨_, List.getElem?_eq_getElem (by first | exact l1 | (simp only [List.length_set]; exact l1))⟩ ⟨_, List.getElem?_eq_getElem (by simp only [List.length_set]; exact l2)⟩ _
      ·have hb2 : (h.set i (topB (ls.length * 35)))[j]? = some (.blk true true (deR.cells ss)) := by rw [List.getElem?_set_ne hne, h2]; unfold resB; rw [if_neg z2]
       have hlt2 : j < (h.set i (topB (ls.length * 35))).length := (List.getElem?_eq_some_iff.1 hb2).1
       refine JRq (S := Nat) (fun k => ss.length - k) (fun k => tp 1 ++ [.p (h.length + 0) 0] ++ tp 1 ++ [.i .i64 (k : Nat)] ++ tp 24) (fun _ => ((h.set i (topB (ls.length * 35))).set j (topB (ss.length * 35))) ++ [AB.blk false true (.i .i64 k0 :: .s t :: (deR.f c ++ [rsl deR i ls, rsl deR j ss]))]) (fun k => k ≤ ss.length) 0 (Nat.zero_le _) (K1X hb2 (deR.cells_len ss) _ (by simp only [Zsz, quq, simprocAttr])) fun k hk => ?_
       have r2 : rsl deR j ss = .sl j 0 ss.length ss.length (some 35) := by unfold rsl; rw [if_neg z2]; rfl
       have e20 : lenV (rsl deR j ss) = some (ss.length : Int) := QeR _ _
       by_cases hlk : k < ss.length
       ·have g1 : ((k : Int) < (ss.length : Int)) = True := eq_true (by omega)
        have e1 := w1 k (by omega)
        have e3 := zmr (n := ss.length * 35) hlt2 [AB.blk false true (.i .i64 k0 :: .s t :: (deR.f c ++ [rsl deR i ls, rsl deR j ss]))] (0 + k * 35) 35 YyC rfl rfl (by omega)
        have e4 := lj ss.length k hlk
        simp only [YyC, KO7, List.drop_succ_cons, List.drop_zero] at e3
        rw [← r2] at e4
        simp only [JaG, Qv6, Zsz, qtO, quq, simprocAttr, CO.tmps, Opd.tmps, optT, Nat.reducePow, Nat.reduceDiv, Nat.reduceMod, QjP, Yzo, hlen, c1, c2, c3, ca, tm, e20, g1, e1, e4, e3, false_implies]
        exact ⟨k + 1, by omega, by dsimp only; omega, Q1p hlt2 _ _ _ (by simp only [List.length_cons, List.length_nil]; omega) (by simp only [Zsz, quq, simprocAttr])⟩
       ·have g1 : ((k : Int) < (ss.length : Int)) = False := eq_false (by omega)
        simp only [JaG, Qv6, Zsz, qtO, quq, simprocAttr, CO.tmps, Opd.tmps, optT, Nat.reducePow, Nat.reduceDiv, Nat.reduceMod, QjP, Yzo, hlen, c1, c2, c3, ca, tm, e20, g1, false_implies]
        exact q7t hh (by rw [List.set_comm _ _ (Ne.symm hne), List.set_set, List.set_set]) ⟨_, List.getElem?_eq_getElem (by first | exact l1 | (simp only [List.length_set]; exact l1))⟩ ⟨_, List.getElem?_eq_getElem (by simp only [List.length_set]; exact l2)⟩ _
   ·cases e1
  ·cases e1
 ·cases e
end Go.Proofs.Ytpoojfnmhnedpaa
end
section
namespace Go.Proofs.Ytpoojfnmhnedpaa
set_option maxRecDepth 100000
set_option maxHeartbeats 4000000
theorem btQn {P : Program} {h : List AB} {i : Nat} {s : AV} {x : RSt} {l : List UInt8} (h0 : l.length = 0) : Bt P h.length [.ns] (qB h i s x ++ []) [rsl Xdl h.length l] (qB h i s x ++ [resB Xdl true l]) := by
 have := Bt.one0 (P := P) (h := qB h i s x) (v := .ns) (r := Xdl) (l := l) h0 (Wk.nil _ _)
 rw [XD9] at this
 exact this
theorem zEP {P : Program} {h : List AB} {i : Nat} {s : AV} {bs : List UInt8} {x : RSt} {L : List AB} {v : AV} {l : List UInt8} (H : QdH h i s bs) (hok : s.ok (fun k => decide (k < h.length)) = true) (k : Nat) (hh : HOk h) (h0 : l.length = 0 → Wk (.sl h.length 0 0 0 (some 0)) v) (hk : k < L.length) (h1 : l.length ≠ 0 → v = .sl (h.length + k) 0 l.length l.length (some 1) ∧ L[k]? = some (.blk true true (Xdl.cells l))) : Bt P h.length [v] (qB h i s x ++ L) [rsl Xdl h.length l] (qB h i s x ++ [resB Xdl true l]) := by
 have := Bt.one (P := P) (h := qB h i s x) (L := L) (v := v) (r := Xdl) (l := l) k (ZPu H hok hh x) (by rw [XD9]; exact h0) hk (by rw [XD9]; exact h1)
 rw [XD9] at this
 exact this
theorem Z0p (l : List UInt8) (q : Nat → Bool) : okL q (Xdl.cells l) = true := by rw [Yq4]; exact Y0j q l
noncomputable def qjf : List AV → List AB → Option (AV × List AB)
 | [.p i 0, .i .i64 m], h => (rdQ h i).bind fun y => if y.2.1.length ≤ 1000000 then some (rsl Xdl h.length (Qdr y.2.1 y.2.2 m).1, qB h i y.1 (Qdr y.2.1 y.2.2 m).2 ++ [resB Xdl true (Qdr y.2.1 y.2.2 m).1]) else none
 | _, _ => none
theorem YDS : Spec Try.prog 82 qjf := by
 intro args h v h' e
 unfold qjf at e
 split at e
 ·rename_i i m
  obtain ⟨s, bs, n, er, a, hi, H, hn, e⟩ := X3Q e
  split at e
  ·rename_i hlen
   cases e
   refine FnAt.c (FnAt.run (by kernel_rfl) (T := ⟨[⟨81, J5P, fun _ => []⟩, ⟨72, zE8, fun _ => []⟩], []⟩) ⟨⟨XSh, z78, trivial⟩, trivial⟩ Try.func82 sw82 fun ho hh => ?_)
   have hok := qah hh hi
   have e0 : h ++ [] = qB h i s ⟨n, er, a⟩ ++ [] := by rw [JgC hi]
   rw [e0]
   dsimp only at hlen ⊢
   have f1 := Zlx H hok
   have f2 := zn6 H hok
   have f3 := qu6 (x := ⟨n, er, a⟩) H hn
   have f4 := fun x => QFS (x := x) H
   have hle := ZL8 (x := ⟨n, er, a⟩) hn
   have hge := K9d bs ⟨n, er, a⟩
   obtain ⟨N, hN⟩ : ∃ N : Nat, (YLr bs ⟨n, er, a⟩).1 = (N : Int) := ⟨_, (Int.toNat_of_nonneg hge.1).symm⟩
   obtain ⟨⟨p, er1, a1⟩, hy⟩ : ∃ y, (YLr bs ⟨n, er, a⟩).2 = y := ⟨_, rfl⟩
   rw [hy] at hle
   dsimp only at hle
   have f5 := qu6 (x := ⟨p, er1, a1⟩) H hle
   unfold w82
   by_cases g : er1 = 0
   case neg =>
    have g' := eq_false g
    have hr : Qdr bs ⟨n, er, a⟩ m = ([], ⟨p, er1, a1⟩) := by
     have hm : (K1u bs ⟨n, er, a⟩ m).2 = ⟨p, er1, a1⟩ := by
      unfold K1u
      by_cases g0 : er = 0
      ·rw [if_pos g0]
       split
       ·rw [hy]; unfold RSt.fail; rw [if_neg g]
       ·exact hy
      ·rw [if_neg g0, ← hy, XjZ _ _ g0]
     unfold Qdr
     rw [hm]
     exact JCw _ _ _ _ g
    rw [hr]
    simp only [JaG, Qv6, Zsz, qtO, quq, simprocAttr, CO.tmps, Opd.tmps, optT, Nat.reducePow, Nat.reduceDiv, Nat.reduceMod, f1, f2, f3, f4, f5, hN, hy, g', zE8, List.getElem?_cons_zero, List.getElem?_cons_succ, ne_eq, not_false_eq_true, decide_true]
    exact btQn rfl
   subst g
   have g0 : er = 0 := by
    by_cases g0 : er = 0
    ·exact g0
    ·rw [XjZ _ _ g0] at hy
     exact absurd (congrArg RSt.err hy) g0
   subst g0
   have ff : ∀ e : Int, RSt.fail ⟨p, 0, a1⟩ e n = ⟨p, e, n⟩ := fun e => by unfold RSt.fail; rw [if_pos rfl]
   by_cases g1 : m < (N : Int)
   ·have g1' := eq_true g1
    have hr : Qdr bs ⟨n, 0, a⟩ m = ([], ⟨p, 4, n⟩) := by
     have hm : (K1u bs ⟨n, 0, a⟩ m).2 = ⟨p, 4, n⟩ := by
      unfold K1u
      rw [if_pos rfl, hN, if_pos g1, hy]
      exact ff 4
     unfold Qdr
     rw [hm]
     exact JCw _ _ _ _ (show (4 : Int) ≠ 0 by decide)
    rw [hr]
    simp only [JaG, Qv6, Zsz, qtO, quq, simprocAttr, CO.tmps, Opd.tmps, optT, Nat.reducePow, Nat.reduceDiv, Nat.reduceMod, f1, f2, f3, f4, f5, hN, hy, g1', ff, zE8, J5P, List.getElem?_cons_zero, List.getElem?_cons_succ, ne_eq, not_true_eq_false, decide_false]
    exact btQn rfl
   have g1' := eq_false g1
   have hm : K1u bs ⟨n, 0, a⟩ m = ((N : Int), ⟨p, 0, a1⟩) := by
    unfold K1u
    rw [if_pos rfl, hN, if_neg g1, ← hN, ← hy]
   have hr0 : Qdr bs ⟨n, 0, a⟩ m = KgB bs ⟨p, 0, a1⟩ N n := by
    unfold Qdr
    rw [hm, Int.toNat_natCast]
    rfl
   have w1 : IntKind.i64.wrap ((bs.length : Int) - (p : Int)) = (bs.length : Int) - p := KqM (by unfold In64; omega)
   by_cases g2 : bs.length < p + N
   ·have g2' : ((bs.length : Int) - (p : Int) < (N : Int)) = True := eq_true (by omega)
    have hr : Qdr bs ⟨n, 0, a⟩ m = ([], ⟨p, 6, n⟩) := by rw [hr0]; unfold KgB; rw [if_pos rfl, if_pos g2]
    rw [hr]
    simp only [JaG, Qv6, Zsz, qtO, quq, simprocAttr, CO.tmps, Opd.tmps, optT, Nat.reducePow, Nat.reduceDiv, Nat.reduceMod, f1, f2, f3, f4, f5, hN, hy, g1', g2', w1, ff, zE8, J5P, List.getElem?_cons_zero, List.getElem?_cons_succ, ne_eq, not_true_eq_false, decide_false]
    exact btQn rfl
   have g2' : ((bs.length : Int) - (p : Int) < (N : Int)) = False := eq_false (by omega)
   have hr : Qdr bs ⟨n, 0, a⟩ m = ((bs.drop p).take N, ⟨p + N, 0, a1⟩) := by rw [hr0]; unfold KgB; rw [if_pos rfl, if_neg g2]
   rw [hr]
   obtain ⟨s', hs1, hs2, hs3, hs4⟩ := H.rd.cutS H.cap (a := p) (b := p + N) (by omega) (by omega) (sz := 1) rfl
   rw [show p + N - p = N by omega] at hs2
   have w2 : IntKind.i64.wrap ((p : Int) + (N : Int)) = ((p + N : Nat) : Int) := by
    rw [← Int.natCast_add]
    exact KqM (by unfold In64; omega)
   obtain ⟨l, hl⟩ : ∃ l, l = (bs.drop p).take N := ⟨_, rfl⟩
   have hll : l.length = N := by rw [hl, List.length_take, List.length_drop]; omega
   rw [← hl] at hs2 ⊢
   have fs := hs2.fx (hs3 _ hok) (sz := 1) rfl
   have fp := Ylt H hs2 hs4
   have fm := QvP H hok hh
   have fz : ∀ (x : RSt) L, srcV ((qB h i s x).map AB.freeze ++ L) 1 s' = some (l.length, Xdl.cells l) := fun x L => (hs2.setB (fun k hk => H.q k (hs4 k hk)) _).frz.src rfl L
   by_cases h0 : N = 0
   ·have fa : ∀ (x : RSt) ys, appW ((qB h i s x).map AB.freeze ++ [.blk true true []]) true 1 1 (.sl (h.length + 0) 0 0 0 none) l.length ys = some (.sl (h.length + 0) 0 0 0 none, (qB h i s x).map AB.freeze ++ [.blk true true []]) := fun x ys => by
     simp only [appW]
     rw [if_pos (by omega)]
    simp only [JaG, Qv6, Zsz, qtO, quq, simprocAttr, CO.tmps, Opd.tmps, optT, Nat.reducePow, Nat.reduceDiv, Nat.reduceMod, f1, f2, f3, f4, f5, hN, hy, g1', g2', w1, w2, hs1, fs, fp, fm, fz, fa, Zs6, qrK, Ysf, K9v, ZIi, Z0p, zE8, J5P, List.getElem?_cons_zero, List.getElem?_cons_succ, ne_eq, not_true_eq_false, decide_false]
    exact zEP (l := l) H hok 0 hh (fun _ => Wk.empty _ _ _ _ _ _) Nat.one_pos (fun q => absurd (hll.trans h0) q)
   ·have fa : ∀ (x : RSt) ys, appW ((qB h i s x).map AB.freeze ++ [.blk true true []]) true 1 1 (.sl (h.length + 0) 0 0 0 none) l.length ys = some (.sl (h.length + 1) 0 l.length l.length (some 1), (qB h i s x).map AB.freeze ++ [.blk true true [], .blk true true ys]) := fun x ys => by
     have := qoG (h := (qB h i s x).map AB.freeze) [.blk true true []] 0 0 l.length [] ys true rfl rfl (by omega) (by omega)
     rw [List.length_map, XD9, Nat.zero_add] at this
     exact this
    simp only [JaG, Qv6, Zsz, qtO, quq, simprocAttr, CO.tmps, Opd.tmps, optT, Nat.reducePow, Nat.reduceDiv, Nat.reduceMod, f1, f2, f3, f4, f5, hN, hy, g1', g2', w1, w2, hs1, fs, fp, fm, fz, fa, Zs6, qrK, Ysf, K9v, ZIi, Z0p, zE8, J5P, List.getElem?_cons_zero, List.getElem?_cons_succ, ne_eq, not_true_eq_false, decide_false]
    exact zEP (l := l) H hok 1 hh (fun q => absurd (hll.symm.trans q) h0) (show 1 < 2 by decide) (fun _ => ⟨rfl, rfl⟩)
  ·cases e
 ·cases e
noncomputable def KtZ : List AV → List AB → Option (AV × List AB)
 | [.p i 0, .i .i64 m], h => (rdQ h i).bind fun y => if y.2.1.length ≤ 1000000 then some (.s (Qdr y.2.1 y.2.2 m).1, qB h i y.1 (Qdr y.2.1 y.2.2 m).2) else none
 | _, _ => none
theorem zQH : Spec Try.prog 73 KtZ := by
 intro args h v h' e
 unfold KtZ at e
 split at e
 ·rename_i i m
  obtain ⟨s, bs, n, er, a, hi, H, hn, e⟩ := X3Q e
  split at e
  ·rename_i hlen
   cases e
   refine FnAt.c (FnAt.run (by kernel_rfl) (T := ⟨[⟨82, qjf, fun _ => []⟩], []⟩) ⟨⟨YDS, trivial⟩, trivial⟩ Try.func73 sw73 fun ho hh => ?_)
   have hok := qah hh hi
   have e0 : h ++ [] = qB h i s ⟨n, er, a⟩ ++ [] := by rw [JgC hi]
   rw [e0]
   dsimp only at hlen ⊢
   have f1 := Zlx H hok
   have f2 := zn6 H hok
   have f3 := qu6 (x := ⟨n, er, a⟩) H hn
   have f4 := fun x => QFS (x := x) H
   have g2 : (bs.length ≤ 1000000) = True := eq_true hlen
   have fs : ∀ (y : RSt) l, srcV (qB h i s y ++ [resB Xdl true l]) 1 (rsl Xdl (h.length + 0) l) = some (l.length, Xdl.cells l) := fun y l => by
    have := Q1s (h := qB h i s y) (r := Xdl) (sz := 1) rfl [resB Xdl true l] 0 l ⟨true, rfl⟩
    rw [XD9] at this
    exact this
   unfold w73
   simp only [JaG, Qv6, Zsz, qtO, quq, simprocAttr, CO.tmps, Opd.tmps, optT, Nat.reducePow, Nat.reduceDiv, Nat.reduceMod, f1, f2, f3, f4, fs, g2, qjf, XH2, Z8A, List.getElem?_cons_zero, List.getElem?_cons_succ]
   exact btQD H hok hh _ rfl rfl
  ·cases e
 ·cases e
end Go.Proofs.Ytpoojfnmhnedpaa
end
section
namespace Go.Proofs.Ytpoojfnmhnedpaa
set_option maxRecDepth 100000
set_option maxHeartbeats 4000000
theorem zQv {T : Env} {fr : List AV} {h : List AB} (k sz : Nat) (x i : Opd) : opR T (.iaa k sz x i) fr h = (match x.ev fr, i.ev fr with
  | .p id off, .i _ n => if 0 ≤ n ∧ n < k then some (.p id (off + n.toNat * sz), h) else none
  | _, _ => none) := _root_.id rfl
theorem YxI (b : UInt8) (q : Nat → Bool) : (u8A b).ok q = true := _root_.id rfl
def XKm (l : List UInt8) (k : Nat) : List AV := (l.take k).map u8A ++ List.replicate (32 - k) (.i .u8 0)
theorem Xrn (l : List UInt8) (k : Nat) (hl : l.length = 32) (hk : k ≤ 32) : (XKm l k).length = 32 := by
 unfold XKm
 rw [List.length_append, List.length_map, List.length_take, List.length_replicate]
 omega
theorem Qmr (l : List UInt8) (hl : l.length = 32) : XKm l 32 = l.map u8A := by
 unfold XKm
 rw [List.take_of_length_le (by omega), Nat.sub_self, List.replicate_zero, List.append_nil]
theorem Ye4 (l : List UInt8) (k : Nat) (hl : l.length = 32) (hk : k < 32) : over (XKm l k) k [u8A (l.getD k 0)] = XKm l (k + 1) := by
 have h1 : ((l.take k).map u8A).length = k := by rw [List.length_map, List.length_take]; omega
 unfold over XKm
 rw [List.take_append_of_le_length (by omega), List.take_of_length_le (by omega), List.drop_append, List.drop_eq_nil_of_le (by omega), h1, List.length_singleton, show k + 1 - k = 1 by omega, List.drop_replicate, List.take_add_one, List.getD_eq_getElem?_getD, List.getElem?_eq_getElem (show k < l.length by omega), List.nil_append, show 32 - k - 1 = 32 - (k + 1) by omega, List.map_append, List.append_assoc, List.append_assoc]
 rfl
theorem QOw (l : List UInt8) : XKm l 0 = List.replicate 32 (.i .u8 0) := _root_.id rfl
noncomputable def Qqm : List AV → List AB → Option (AV × List AB)
 | [.p i 0], h => (rdQ h i).bind fun y => some (.ag ((rdID y.2.1 y.2.2).1.map u8A), qB h i y.1 (rdID y.2.1 y.2.2).2)
 | _, _ => none
theorem XwB : Spec Try.prog 83 Qqm := by
 intro args h v h' e
 unfold Qqm at e
 split at e
 ·rename_i i
  obtain ⟨s, bs, n, er, a, hi, H, hn, e1⟩ := X3Q e
  clear e
  cases e1
  refine FnAt.c (FnAt.run (by kernel_rfl) (T := ⟨[⟨81, J5P, fun _ => []⟩], []⟩) ⟨⟨XSh, trivial⟩, trivial⟩ Try.func83 sw83 fun ho hh => ?_)
  have hok := qah hh hi
  have e0 : h ++ [] = qB h i s ⟨n, er, a⟩ ++ [] := by rw [JgC hi]
  rw [e0]
  dsimp only
  have f1 := Zlx H hok
  have f2 := zn6 H hok
  have f3 := qu6 (x := ⟨n, er, a⟩) H hn
  have f4 := fun x => QFS (x := x) H
  have m1 : bs.length ≤ maxLen := H.rd.2
  unfold maxLen at m1
  unfold w83
  by_cases g : er = 0
  case neg =>
   have g' := eq_false g
   have hr : rdID bs ⟨n, er, a⟩ = (List.replicate 32 0, ⟨n, er, a⟩) := by unfold rdID; rw [JCw _ _ _ _ g]; rfl
   rw [hr]
   simp only [JaG, Qv6, Zsz, qtO, quq, simprocAttr, CO.tmps, Opd.tmps, optT, Nat.reducePow, Nat.reduceDiv, Nat.reduceMod, QjP, Yzo, qA4, ZMj, f1, f2, g', List.getElem?_cons_zero, List.getElem?_cons_succ, ne_eq, not_false_eq_true, decide_true]
   exact btQD H hok hh _ rfl rfl
  subst g
  have ff : ∀ e : Int, RSt.fail ⟨n, 0, a⟩ e n = ⟨n, e, n⟩ := fun e => by unfold RSt.fail; rw [if_pos rfl]
  have w1 : IntKind.i64.wrap ((bs.length : Int) - (n : Int)) = (bs.length : Int) - n := KqM (by unfold In64; omega)
  by_cases g1 : bs.length < n + 32
  ·have g1' : ((bs.length : Int) - (n : Int) < 32) = True := eq_true (by omega)
   have hr : rdID bs ⟨n, 0, a⟩ = (List.replicate 32 0, ⟨n, 6, n⟩) := by
    have : KgB bs ⟨n, 0, a⟩ 32 (zqQ ⟨n, 0, a⟩) = ([], ⟨n, 6, n⟩) := by unfold KgB; rw [if_pos rfl, if_pos g1]; rfl
    unfold rdID
    rw [this]
    rfl
   rw [hr]
   simp only [JaG, Qv6, Zsz, qtO, quq, simprocAttr, CO.tmps, Opd.tmps, optT, Nat.reducePow, Nat.reduceDiv, Nat.reduceMod, QjP, Yzo, qA4, ZMj, f1, f2, f3, f4, g1', w1, ff, J5P, List.getElem?_cons_zero, List.getElem?_cons_succ, ne_eq, not_true_eq_false, decide_false]
   exact btQD H hok hh _ rfl rfl
  have g1' : ((bs.length : Int) - (n : Int) < 32) = False := eq_false (by omega)
  obtain ⟨l, hl⟩ : ∃ l, l = (bs.drop n).take 32 := ⟨_, rfl⟩
  have hll : l.length = 32 := by rw [hl, List.length_take, List.length_drop]; omega
  have hr : rdID bs ⟨n, 0, a⟩ = (l, ⟨n + 32, 0, a⟩) := by
   have : KgB bs ⟨n, 0, a⟩ 32 (zqQ ⟨n, 0, a⟩) = (l, ⟨n + 32, 0, a⟩) := by unfold KgB; rw [if_pos rfl, if_neg g1, hl]
   unfold rdID
   rw [this, if_pos hll]
  have hld : ∀ k, k < 32 → bs.getD (n + k) 0 = l.getD k 0 := fun k hk => by
   rw [hl, List.getD_eq_getElem?_getD, List.getD_eq_getElem?_getD, List.getElem?_take_of_lt hk, List.getElem?_drop]
  rw [hr]
  have w2 : IntKind.i64.wrap ((n : Int) + 32) = ((n + 32 : Nat) : Int) := KqM (by unfold In64; omega)
  have fm := QvP H hok hh
  obtain ⟨b1, b2, b3, b4, b5⟩ := qUC hll
  simp only [JaG, Qv6, Zsz, qtO, quq, simprocAttr, CO.tmps, Opd.tmps, optT, Nat.reducePow, Nat.reduceDiv, Nat.reduceMod, QjP, Yzo, qA4, ZMj, f1, f2, f3, f4, g1', w1, List.getElem?_cons_zero, List.getElem?_cons_succ, ne_eq, not_true_eq_false, decide_false]
  refine JRq (S := Nat) (fun k => 32 - k) (fun k => [.p i 0] ++ tp 1 ++ [.p (h.length + 0) 0, .p (h.length + 1) 0, .i .i64 (k : Int)] ++ tp 54) (fun k => qB h i s ⟨n, 0, a⟩ ++ [.blk true true (List.replicate 32 (.i .u8 0)), .blk true true (XKm l k)]) (fun k => k ≤ 32) 0 (Nat.zero_le _) (by rw [QOw]; exact Bt.wk (by simp only [Zsz, quq, simprocAttr])) fun k hk => ?_
  by_cases g5 : k < 32
  ·have g5' : ((k : Int) < 32) = True := eq_true (by omega)
   have w0 : IntKind.i64.wrap ((n : Int) + (k : Int)) = ((n + k : Nat) : Int) := by
    rw [← Int.natCast_add]
    exact KqM (by unfold In64; omega)
   have w3 : IntKind.i64.wrap ((k : Int) + 1) = ((k + 1 : Nat) : Int) := KqM (by unfold In64; omega)
   have g6' : ((0 : Int) ≤ ((n + k : Nat) : Int) ∧ ((n + k : Nat) : Int) < (bs.length : Int)) = True := eq_true (by omega)
   have g7' : (n + k < bs.length) = True := eq_true (by omega)
   have g8' : ((0 : Int) ≤ (k : Int) ∧ (k : Int) < ((32 : Nat) : Int)) = True := eq_true (by omega)
   have q0 := hld k g5
   have q1 := Ye4 l k hll g5
   have q2 := Xrn l k hll hk
   have q3 : (k + 1 ≤ 32) = True := eq_true (by omega)
   simp only [Zsz, qtO, quq, simprocAttr, CO.tmps, Opd.tmps, optT, Nat.reducePow, Nat.reduceDiv, Nat.reduceMod, QjP, Yzo, qA4, ZMj, K9v, ZIi, f1, f2, fm, zQv, w0, w3, g5', g6', g7', g8', q0, q1, q2, q3, YxI, qAJ, X41, ztu, X3l, q8C, Nat.zero_add, Nat.mul_one, List.getElem?_cons_zero, List.getElem?_cons_succ]
   exact ⟨k + 1, g5, by dsimp only; omega, Bt.wk (by simp only [Zsz, quq, simprocAttr])⟩
  ·have g5' : ((k : Int) < 32) = False := eq_false (by omega)
   obtain rfl : k = 32 := by omega
   rw [Qmr l hll]
   simp only [Zsz, qtO, quq, simprocAttr, CO.tmps, Opd.tmps, optT, Nat.reducePow, Nat.reduceDiv, Nat.reduceMod, QjP, Yzo, qA4, ZMj, f1, f2, g5', w2, b1, b2, b3, b4, b5, ZjI, List.length_replicate, List.getElem?_cons_zero, List.getElem?_cons_succ]
   exact btQD H hok hh _ rfl (by rw [QxI]; exact b4 _)
 ·cases e
end Go.Proofs.Ytpoojfnmhnedpaa
end
section
namespace Go.Proofs.Ytpoojfnmhnedpaa
set_option maxRecDepth 100000
set_option maxHeartbeats 4000000
noncomputable def Yex : List AV → List AB → Option (AV × List AB)
 | [.p i 0], h => (rdQ h i).bind fun y => if y.2.1.length ≤ 1000000 then some (.ag (deR.f (dsc (rdDe y.2.1 y.2.2).1)), qB h i y.1 (rdDe y.2.1 y.2.2).2) else none
 | _, _ => none
theorem QuD : Spec Try.prog 74 Yex := by
 intro args h v h' e
 unfold Yex at e
 split at e
 ·rename_i i
  obtain ⟨s, bs, n, er, a, hi, H, hn, e⟩ := X3Q e
  split at e
  ·rename_i hlen
   cases e
   refine FnAt.c (FnAt.run (by kernel_rfl) (T := ⟨[⟨72, zE8, fun _ => []⟩, ⟨83, Qqm, fun _ => []⟩, ⟨73, KtZ, fun _ => []⟩], []⟩) ⟨⟨z78, XwB, zQH, trivial⟩, trivial⟩ Try.func74 sw74 fun ho hh => ?_)
   have hok := qah hh hi
   have e0 : h ++ [] = qB h i s ⟨n, er, a⟩ ++ [] := by rw [JgC hi]
   rw [e0]
   dsimp only at hlen ⊢
   have f1 := Zlx H hok
   have f4 := fun x => QFS (x := x) H
   have g2 : (bs.length ≤ 1000000) = True := eq_true hlen
   obtain ⟨x0, hx0⟩ : ∃ x0 : RSt, x0 = ⟨n, er, a⟩ := ⟨_, rfl⟩
   rw [← hx0]
   have n0 : x0.pos ≤ bs.length := by rw [hx0]; exact hn
   have n1 := ZL8 n0
   have n2 := qqH n1
   have n3 := ZL8 n2
   have r0 := qu6 H n0
   have r1 := qu6 H n1
   have r2 := qu6 H n2
   have r3 := qu6 H n3
   have hid := ztf bs (YLr bs x0).2
   obtain ⟨b1, b2, b3, b4, b5⟩ := qUC hid
   have ov := J7Q b1
   have hr : deR.f (dsc (rdDe bs x0).1) = .i .i64 (YLr bs x0).1 :: ((rdID bs (YLr bs x0).2).1.map u8A ++ [.i .i64 (YLr bs (rdID bs (YLr bs x0).2).2).1, .s (Qdr bs (YLr bs (rdID bs (YLr bs x0).2).2).2 4096).1]) := de_f hid
   have hr2 : (rdDe bs x0).2 = (Qdr bs (YLr bs (rdID bs (YLr bs x0).2).2).2 4096).2 := rfl
   rw [hr, hr2]
   have ov2 : ∀ l : List AV, over l 0 l = l := fun l => ZjI _ _ rfl
   have ov3 : ∀ a b c : AV, ∀ M : List AV, M.length = 32 → ∀ zs : List AV, zs.length = 35 → over zs 0 (a :: (M ++ [b, c])) = a :: (M ++ [b, c]) := fun a b c M hM zs hz => ZjI _ _ (by simp [hM, hz])
   unfold w74
   simp only [JaG, Qv6, Zsz, qtO, quq, simprocAttr, CO.tmps, Opd.tmps, optT, Nat.reducePow, Nat.reduceDiv, Nat.reduceMod, QjP, Yzo, qA4, ZMj, K9v, ZIi, f1, f4, r0, r1, r2, r3, g2, b1, b3, ov, ov2, ov3, zE8, Qqm, KtZ, List.all_append, List.getElem?_cons_zero, List.getElem?_cons_succ]
   exact btQD H hok hh _ rfl (by rw [QxI, JjX, Xx4, b4]; rfl)
  ·cases e
 ·cases e
end Go.Proofs.Ytpoojfnmhnedpaa
end
section
namespace Go.Proofs.Ytpoojfnmhnedpaa
set_option maxRecDepth 100000
set_option maxHeartbeats 4000000
theorem K0g {P : Program} {h : List AB} {i : Nat} {s : AV} {bs : List UInt8} (H : QdH h i s bs) (hok : s.ok (fun k => decide (k < h.length)) = true) (hh : HOk h) {x : RSt} {L : List AB} {a b : Nat} (ha : a < L.length) (hb : b < L.length) (hab : a ≠ b) {ls ss : List Dsc} (la : ls = [] ∨ L[a]? = some (resB deR true ls)) (lb : ss = [] ∨ L[b]? = some (resB deR true ss)) (C F : List AV) (hC : ∀ c ∈ C, c.fl = true) (hF : ∀ c ∈ F, c.fl = true) :
  Bt P h.length [.tu [.ag (C ++ [apS deR (h.length + a) ls, apS deR (h.length + b) ss]), .ag F]] (qB h i s x ++ L) [.tu [.ag (C ++ [rsl deR h.length ls, rsl deR (h.length + 1) ss]), .ag F]] (qB h i s x ++ [resB deR true ls, resB deR true ss]) := by
 refine Bt.trans (Bt.wk1 (Wk.tu (l' := [.ag (C ++ [rsl deR (h.length + a) ls, rsl deR (h.length + b) ss]), .ag F]) ⟨Wk.ag (WkL.app C ⟨Kxx _ _, Kxx _ _, trivial⟩), Wk.refl _, trivial⟩)) ?_
 have bw : ∀ (k : Nat) (m : List Dsc), k < L.length → (m = [] ∨ L[k]? = some (resB deR true m)) → ∃ B, L[k]? = some B ∧ BWk (fun i => decide (i < h.length + [a, b].length)) (selN h.length [a, b]) (resB deR true m) B := fun k m hk hm => by
  rcases hm with rfl | hm
  ·exact ⟨L[k], List.getElem?_eq_getElem hk, trivial⟩
  ·exact ⟨_, hm, of_eq_true (Q13 _ _ _ _)⟩
 obtain ⟨s0, s1⟩ := Q2w h.length a b
 refine btQS H hok hh [a, b] (by simp [hab]) ⟨bw a ls ha la, bw b ss hb lb, trivial⟩ ⟨.inr ⟨?_, ?_⟩, trivial⟩
 ·simp only [Jiv, JjX, QxI, Xx4, ZI1 _ C hC, ZI1 _ F hF, ZWl, Bool.true_and, Bool.and_true, Bool.and_eq_true]
  exact ⟨YAk _ _ _ (by simp), YAk _ _ _ (by simp)⟩
 ·have e : (AV.tu [.ag (C ++ [rsl deR h.length ls, rsl deR (h.length + 1) ss]), .ag F]).ren (selN h.length [a, b]) = .tu [.ag (C ++ [rsl deR (h.length + a) ls, rsl deR (h.length + b) ss]), .ag F] := by
   simp only [AV.ren, renL]
   rw [JGd _ C _ hC]
   have := JGd (selN h.length [a, b]) F [] hF
   rw [List.append_nil] at this
   simp only [this, renL, qSu, List.append_nil, s1]
   rw [show selN h.length [a, b] h.length = h.length + a from s0]
  rw [e]
  exact Wk.refl _
theorem fd2 (d : Dsc) (q : Nat → Bool) : okL q (deR.f d ++ [.ns, .ns]) = true := by rw [Xx4, ZI1 q _ (qAM d)]; rfl
theorem fw2 (d : Dsc) (f : Nat → Nat) : WkL (renL f (deR.f d ++ [.ns, .ns])) (deR.f d ++ [.ns, .ns]) = True := by
 rw [JGd f _ _ (qAM d)]
 exact eq_true (WkL.refl _)
theorem ZeW (d : Dsc) (a b : AV) : (deR.f d ++ [a, b]).length = 37 := by rw [List.length_append, deR.len]; rfl
theorem YSK (d : Dsc) (zs : List AV) (hz : zs.length = 37) (a b : AV) : over zs 0 (deR.f d ++ [a, b]) = deR.f d ++ [a, b] := ZjI _ _ (by rw [ZeW, hz])
noncomputable def Z4p : List AV → List AB → Option (AV × List AB)
 | [.p i 0, .i .i64 sz], h => (rdQ h i).bind fun y => if y.2.1.length ≤ 1000000 ∧ 0 ≤ sz ∧ sz ≤ 1000000 then
   some (.tu [.ag (.i .i64 (Knm y.2.1 y.2.2 sz).1.1.kind :: .s (Knm y.2.1 y.2.2 sz).1.1.title :: (deR.f (dsc (Knm y.2.1 y.2.2 sz).1.1.config) ++ [rsl deR h.length ((Knm y.2.1 y.2.2 sz).1.1.layers.map dsc), rsl deR (h.length + 1) ((Knm y.2.1 y.2.2 sz).1.1.subs.map dsc)])), .ag [.i .i64 (Knm y.2.1 y.2.2 sz).1.2.1, .i .i64 (Knm y.2.1 y.2.2 sz).1.2.2]], qB h i y.1 (Knm y.2.1 y.2.2 sz).2 ++ [resB deR true ((Knm y.2.1 y.2.2 sz).1.1.layers.map dsc), resB deR true ((Knm y.2.1 y.2.2 sz).1.1.subs.map dsc)]) else none
 | _, _ => none
theorem KBi : Spec Try.prog 53 Z4p := by
 intro args h v h' e
 unfold Z4p at e
 split at e
 ·rename_i i sz
  obtain ⟨s, bs, n, er, a, hi, H, hn, e⟩ := X3Q e
  split at e
  ·rename_i hlen
   dsimp only at e
   cases e
   obtain ⟨hlen, hz0, hz1⟩ := hlen
   refine FnAt.c (FnAt.run (by kernel_rfl) (T := ⟨[⟨72, zE8, fun _ => []⟩, ⟨73, KtZ, fun _ => []⟩, ⟨74, Yex, fun _ => []⟩, ⟨55, zhz, fun _ => []⟩], []⟩) ⟨⟨z78, zQH, QuD, qdV, trivial⟩, trivial⟩ Try.func53 sw53 fun ho hh => ?_)
   have hok := qah hh hi
   have e0 : h ++ [] = qB h i s ⟨n, er, a⟩ ++ [] := by rw [JgC hi]
   rw [e0]
   dsimp only at hlen ⊢
   have f1 := Zlx H hok
   have f4 := fun x => QFS (x := x) H
   have g2 : (bs.length ≤ 1000000) = True := eq_true hlen
   obtain ⟨x0, hx0⟩ : ∃ x0 : RSt, x0 = ⟨n, er, a⟩ := ⟨_, rfl⟩
   rw [← hx0]
   have n0 : x0.pos ≤ bs.length := by rw [hx0]; exact hn
   have r0 := qu6 H n0
   obtain ⟨a1, x1, e1⟩ : ∃ a1 x1, YLr bs x0 = (a1, x1) := ⟨_, _, rfl⟩
   have n1 : x1.pos ≤ bs.length := by have := ZL8 n0; rw [e1] at this; exact this
   have r1 := qu6 H n1
   obtain ⟨a2, x2, e2⟩ : ∃ a2 x2, YLr bs x1 = (a2, x2) := ⟨_, _, rfl⟩
   have n2 : x2.pos ≤ bs.length := by have := ZL8 n1; rw [e2] at this; exact this
   have r2 := qu6 H n2
   have fi : ∀ sel, selN h.length sel i = i := fun sel => Zat H.hi
   have fl : ∀ c, (i < h.length + c) = True := fun c => eq_true (by have := H.hi; omega)
   unfold w53
   by_cases g1 : a1 = 77
   case neg =>
    have g1' := eq_false g1
    have hr : Knm bs x0 sz = ((manZ, 20, 0), x1) := by
     unfold Knm
     simp only [e1]
     rw [if_neg g1]
    rw [hr]
    simp only [JaG, Qv6, Zsz, qtO, quq, simprocAttr, CO.tmps, Opd.tmps, optT, Nat.reducePow, Nat.reduceDiv, Nat.reduceMod, QjP, Yzo, qA4, ZMj, f1, f4, r0, e1, g1', zE8, ne_eq, not_true_eq_false, not_false_eq_true, decide_true, decide_false, Qmy]
    exact K0g H hok hh (a := 0) (b := 1) (by simp) (by simp) (by decide) (ls := []) (ss := []) (.inl rfl) (.inl rfl) (.i .i64 0 :: .s [] :: deR.f (dsc deZ)) [.i .i64 20, .i .i64 0] (qZW _ _ _) (XMv _ _)
   subst g1
   by_cases g3 : a2 = 3
   ·subst g3
    obtain ⟨t, x3, e3⟩ : ∃ t x3, Qdr bs x2 4096 = (t, x3) := ⟨_, _, rfl⟩
    have n3 : x3.pos ≤ bs.length := by have := J9T 4096 n2; rw [e3] at this; exact this
    have r3 := qu6 H n3
    obtain ⟨c, x4, e4⟩ : ∃ c x4, rdDe bs x3 = (c, x4) := ⟨_, _, rfl⟩
    have n4 : x4.pos ≤ bs.length := by have := Qi6 n3; rw [e4] at this; exact this
    have r4 := qu6 H n4
    obtain ⟨N, x5, e5⟩ := qo2 bs x4
    have n5 : x5.pos ≤ bs.length := by have := ZL8 n4; rw [e5] at this; exact this
    have r5 := qu6 H n5
    have q6 := zZT n4
    have w1 : IntKind.i64.wrap (sz - qPL bs x4) = sz - qPL bs x4 := KqM (by unfold In64; omega)
    obtain ⟨b1, b2, b3, b4, b5⟩ := Yeu (dsc c)
    have b6 := zPU (dsc c)
    have ov := ov35 b1
    rw [Qrt e1 e2 e3 e4 e5]
    unfold qwg
    by_cases g4 : 16 < N
    ·have g4' : ((16 : Int) < (N : Int)) = True := eq_true (by omega)
     rw [if_pos g4]
     simp only [JaG, Qv6, Zsz, qtO, quq, simprocAttr, CO.tmps, Opd.tmps, optT, Nat.reducePow, Nat.reduceDiv, Nat.reduceMod, QjP, Yzo, qA4, ZMj, K9v, ZIi, f1, f4, r0, r1, r2, r3, r4, e1, e2, e3, e4, e5, w1, g2, b1, b2, b3, b4, b6, ov, ZeW, YSK, Xx4, zE8, KtZ, Yex, zhz, List.all_append, ne_eq, not_true_eq_false, not_false_eq_true, decide_true, decide_false, g4', Qmy]
     exact K0g H hok hh (a := 0) (b := 1) (by simp) (by simp) (by decide) (ls := []) (ss := []) (.inl rfl) (.inl rfl) (.i .i64 3 :: .s t :: deR.f (dsc c)) [.i .i64 4, .i .i64 (sz - qPL bs x4)] (qZW _ _ _) (XMv _ _)
    ·have g4' : ((16 : Int) < (N : Int)) = False := eq_false (by omega)
     rw [if_neg g4]
     simp only [JaG, Qv6, Zsz, qtO, quq, simprocAttr, CO.tmps, Opd.tmps, optT, Nat.reducePow, Nat.reduceDiv, Nat.reduceMod, QjP, Yzo, qA4, ZMj, K9v, ZIi, f1, f4, r0, r1, r2, r3, r4, e1, e2, e3, e4, e5, w1, g2, b1, b2, b3, b4, b6, ov, ZeW, YSK, Xx4, zE8, KtZ, Yex, zhz, List.all_append, ne_eq, not_true_eq_false, not_false_eq_true, decide_true, decide_false, g4']
     refine JRq (S := Nat) (fun k => N - k) (fun k => [.p i 0] ++ tp 3 ++ [.p (h.length + 0) 0, .p (h.length + 1) 0, .p (h.length + 2) 0] ++ tp 2 ++ [.i .i64 N, apS deR (h.length + 3) ((YLQ bs x5 k).1.map dsc), .i .i64 k] ++ tp 59) (fun k => qB h i s (YLQ bs x5 k).2 ++ [.blk false true (.i .i64 0 :: .s [] :: (deR.f (dsc deZ) ++ [.ns, .ns])), .blk true true [.i .i64 0, .i .i64 0], .blk false true (.i .i64 3 :: .s t :: (deR.f (dsc c) ++ [.ns, .ns])), resB deR true ((YLQ bs x5 k).1.map dsc)]) (fun k => k ≤ N) 0 (Nat.zero_le _) ?_ fun k hk => ?_
     ·show Bt _ _ _ _ _ (qB h i s x5 ++ ([_, _, _] ++ List.replicate 1 .dead))
      rw [← List.append_assoc]
      refine Bt.trans (Bt.wk ?_) (Bt.pad _ _ 1)
      rw [show apS deR (h.length + 3) ((YLQ bs x5 0).1.map dsc) = .ns from rfl]
      simp only [Zsz, quq, simprocAttr]
     ·by_cases gi : k < N
      ·have gi' : ((k : Int) < (N : Int)) = True := eq_true (by omega)
       have w2 : IntKind.i64.wrap ((k : Int) + 1) = ((k + 1 : Nat) : Int) := KqM (by unfold In64; omega)
       have hst : (YLQ bs x5 (k + 1)).1.map dsc = (YLQ bs x5 k).1.map dsc ++ [dsc (rdDe bs (YLQ bs x5 k).2).1] := by
        show (_ ++ [_]).map dsc = _
        rw [List.map_append]
        rfl
       have hst2 : (YLQ bs x5 (k + 1)).2 = (rdDe bs (YLQ bs x5 k).2).2 := rfl
       have lo : ((YLQ bs x5 k).1.map dsc).length = k := by rw [List.length_map, J1Y]
       have rk := qu6 H (qIS n5 k)
       obtain ⟨c1, c2, c3, c4, c5⟩ := Yeu (dsc (rdDe bs (YLQ bs x5 k).2).1)
       generalize (YLQ bs x5 k).1.map dsc = o at *
       by_cases hB : o = []
       ·have z3 : (1 * 64 ≤ 140737488355328 ∧ 1 ≤ maxLen) = True := eq_true ⟨by decide, by unfold maxLen; omega⟩
        simp only [hB, qnP, Zsz, qtO, quq, simprocAttr, CO.tmps, Opd.tmps, optT, Nat.reducePow, Nat.reduceDiv, Nat.reduceMod, QjP, Yzo, qA4, ZMj, zWS, f1, f4, rk, g2, gi', Yex, c1, c2, c3, c5, w2, z3]
        refine ⟨k + 1, gi, by dsimp only; omega, ?_⟩
        simp only [hst, hst2, hB, List.nil_append, zWs, qcf]
        exact btQS H hok hh [0, 1, 2, 5] (by decide) (by simp only [YmE, FrSel, BlkSel, AV.ren, renL, AV.ok, okL, Option.some.injEq, exists_eq_left', List.length_cons, List.length_nil, Nat.reduceAdd, Nat.reduceLT, reduceCtorEq, implies_true, exists_eq', fi, fl, fd2, fw2]) (by simp only [YmE, FrSel, BlkSel, AV.ren, renL, AV.ok, okL, Option.some.injEq, exists_eq_left', List.length_cons, List.length_nil, Nat.reduceAdd, Nat.reduceLT, reduceCtorEq, implies_true, exists_eq', fi, fl, Qy1])
       ·have hlB : o.length ≠ 0 := fun q => hB (List.eq_nil_of_length_eq_zero q)
        have gr : ∀ id, apS deR id o = rsl deR id o := fun id => ZLk _ hlB
        have fa := fun (x : RSt) L k ys hb => qK0 (h := qB h i s x) (p := h.length) XD9 (r := deR) (sz := 35) rfl L k o 64 1 ys hlB hb (by decide) (by omega) (by unfold maxLen; omega)
        simp only [gr, Zsz, qtO, quq, simprocAttr, CO.tmps, Opd.tmps, optT, Nat.reducePow, Nat.reduceDiv, Nat.reduceMod, QjP, Yzo, qA4, ZMj, zWS, f1, f4, rk, g2, gi', Yex, c1, c2, c3, c5, w2, fa]
        refine ⟨k + 1, gi, by dsimp only; omega, ?_⟩
        simp only [hst, hst2, qFt, XtT]
        exact btQS H hok hh [0, 1, 2, 5] (by decide) (by simp only [YmE, FrSel, BlkSel, AV.ren, renL, AV.ok, okL, Option.some.injEq, exists_eq_left', List.length_cons, List.length_nil, Nat.reduceAdd, Nat.reduceLT, reduceCtorEq, implies_true, exists_eq', fi, fl, fd2, fw2]) (by simp only [YmE, FrSel, BlkSel, AV.ren, renL, AV.ok, okL, Option.some.injEq, exists_eq_left', List.length_cons, List.length_nil, Nat.reduceAdd, Nat.reduceLT, reduceCtorEq, implies_true, exists_eq', fi, fl, Qy1])
      ·obtain rfl : k = N := by omega
       have gi' : ((k : Int) < (k : Int)) = False := eq_false (by omega)
       obtain ⟨o, ho'⟩ : ∃ o, o = (YLQ bs x5 k).1.map dsc := ⟨_, rfl⟩
       simp only [Zsz, qtO, quq, simprocAttr, CO.tmps, Opd.tmps, optT, Nat.reducePow, Nat.reduceDiv, Nat.reduceMod, QjP, Yzo, qA4, ZMj, K9v, ZIi, f1, f4, r0, r1, r2, r3, r4, e1, e2, e3, e4, e5, w1, g2, b1, b2, b3, b4, b6, ov, ZeW, YSK, Xx4, zE8, KtZ, Yex, zhz, List.all_append, ne_eq, not_true_eq_false, not_false_eq_true, decide_true, decide_false, gi', JBL, qQd, Qmy]
       exact K0g H hok hh (a := 3) (b := 0) (by simp) (by simp) (by decide) (ls := (YLQ bs x5 k).1.map dsc) (ss := []) (.inr rfl) (.inl rfl) (.i .i64 3 :: .s t :: deR.f (dsc c)) [.i .i64 0, .i .i64 0] (qZW _ _ _) (XMv _ _)
   have g3' := eq_false g3
   by_cases g7 : a2 = 4
   ·subst g7
    have g3' : ((4 : Int) = 3) = False := eq_false (by decide)
    obtain ⟨t, x3, e3⟩ : ∃ t x3, Qdr bs x2 4096 = (t, x3) := ⟨_, _, rfl⟩
    have n3 : x3.pos ≤ bs.length := by have := J9T 4096 n2; rw [e3] at this; exact this
    have r3 := qu6 H n3
    obtain ⟨N, x5, e5⟩ := qo2 bs x3
    have n5 : x5.pos ≤ bs.length := by have := ZL8 n3; rw [e5] at this; exact this
    have r5 := qu6 H n5
    have q6 := zZT n3
    have w1 : IntKind.i64.wrap (sz - qPL bs x3) = sz - qPL bs x3 := KqM (by unfold In64; omega)
    obtain ⟨b1, b2, b3, b4, b5⟩ := Yeu (dsc deZ)
    have b6 := zPU (dsc deZ)
    have ov := ov35 b1
    rw [ZcF e1 e2 e3 e5]
    unfold QLR
    by_cases g4 : 8 < N
    ·have g4' : ((8 : Int) < (N : Int)) = True := eq_true (by omega)
     rw [if_pos g4]
     simp only [JaG, Qv6, Zsz, qtO, quq, simprocAttr, CO.tmps, Opd.tmps, optT, Nat.reducePow, Nat.reduceDiv, Nat.reduceMod, QjP, Yzo, qA4, ZMj, K9v, ZIi, f1, f4, r0, r1, r2, r3, e1, e2, e3, e5, w1, g3', g2, b1, b2, b3, b4, b6, ov, ZeW, YSK, Xx4, zE8, KtZ, Yex, zhz, List.all_append, ne_eq, not_true_eq_false, not_false_eq_true, decide_true, decide_false, g4', Qmy]
     exact K0g H hok hh (a := 0) (b := 1) (by simp) (by simp) (by decide) (ls := []) (ss := []) (.inl rfl) (.inl rfl) (.i .i64 4 :: .s t :: deR.f (dsc deZ)) [.i .i64 4, .i .i64 (sz - qPL bs x3)] (qZW _ _ _) (XMv _ _)
    ·have g4' : ((8 : Int) < (N : Int)) = False := eq_false (by omega)
     rw [if_neg g4]
     simp only [JaG, Qv6, Zsz, qtO, quq, simprocAttr, CO.tmps, Opd.tmps, optT, Nat.reducePow, Nat.reduceDiv, Nat.reduceMod, QjP, Yzo, qA4, ZMj, K9v, ZIi, f1, f4, r0, r1, r2, r3, e1, e2, e3, e5, w1, g3', g2, b1, b2, b3, b4, b6, ov, ZeW, YSK, Xx4, zE8, KtZ, Yex, zhz, List.all_append, ne_eq, not_true_eq_false, not_false_eq_true, decide_true, decide_false, g4']
     refine JRq (S := Nat) (fun k => N - k) (fun k => [.p i 0] ++ tp 3 ++ [.p (h.length + 0) 0, .p (h.length + 1) 0, .p (h.length + 2) 0] ++ tp 2 ++ [.i .i64 N, apS deR (h.length + 3) ((YLQ bs x5 k).1.map dsc), .i .i64 k] ++ tp 59) (fun k => qB h i s (YLQ bs x5 k).2 ++ [.blk false true (.i .i64 0 :: .s [] :: (deR.f (dsc deZ) ++ [.ns, .ns])), .blk true true [.i .i64 0, .i .i64 0], .blk false true (.i .i64 4 :: .s t :: (deR.f (dsc deZ) ++ [.ns, .ns])), resB deR true ((YLQ bs x5 k).1.map dsc)]) (fun k => k ≤ N) 0 (Nat.zero_le _) ?_ fun k hk => ?_
     ·show Bt _ _ _ _ _ (qB h i s x5 ++ ([_, _, _] ++ List.replicate 1 .dead))
      rw [← List.append_assoc]
      refine Bt.trans (Bt.wk ?_) (Bt.pad _ _ 1)
      rw [show apS deR (h.length + 3) ((YLQ bs x5 0).1.map dsc) = .ns from rfl]
      simp only [Zsz, quq, simprocAttr]
     ·by_cases gi : k < N
      ·have gi' : ((k : Int) < (N : Int)) = True := eq_true (by omega)
       have w2 : IntKind.i64.wrap ((k : Int) + 1) = ((k + 1 : Nat) : Int) := KqM (by unfold In64; omega)
       have hst : (YLQ bs x5 (k + 1)).1.map dsc = (YLQ bs x5 k).1.map dsc ++ [dsc (rdDe bs (YLQ bs x5 k).2).1] := by
        show (_ ++ [_]).map dsc = _
        rw [List.map_append]
        rfl
       have hst2 : (YLQ bs x5 (k + 1)).2 = (rdDe bs (YLQ bs x5 k).2).2 := rfl
       have lo : ((YLQ bs x5 k).1.map dsc).length = k := by rw [List.length_map, J1Y]
       have rk := qu6 H (qIS n5 k)
       obtain ⟨c1, c2, c3, c4, c5⟩ := Yeu (dsc (rdDe bs (YLQ bs x5 k).2).1)
       generalize (YLQ bs x5 k).1.map dsc = o at *
       by_cases hB : o = []
       ·have z3 : (1 * 64 ≤ 140737488355328 ∧ 1 ≤ maxLen) = True := eq_true ⟨by decide, by unfold maxLen; omega⟩
        simp only [hB, qnP, Zsz, qtO, quq, simprocAttr, CO.tmps, Opd.tmps, optT, Nat.reducePow, Nat.reduceDiv, Nat.reduceMod, QjP, Yzo, qA4, ZMj, zWS, f1, f4, rk, g2, gi', Yex, c1, c2, c3, c5, w2, z3]
        refine ⟨k + 1, gi, by dsimp only; omega, ?_⟩
        simp only [hst, hst2, hB, List.nil_append, zWs, qcf]
        exact btQS H hok hh [0, 1, 2, 5] (by decide) (by simp only [YmE, FrSel, BlkSel, AV.ren, renL, AV.ok, okL, Option.some.injEq, exists_eq_left', List.length_cons, List.length_nil, Nat.reduceAdd, Nat.reduceLT, reduceCtorEq, implies_true, exists_eq', fi, fl, fd2, fw2]) (by simp only [YmE, FrSel, BlkSel, AV.ren, renL, AV.ok, okL, Option.some.injEq, exists_eq_left', List.length_cons, List.length_nil, Nat.reduceAdd, Nat.reduceLT, reduceCtorEq, implies_true, exists_eq', fi, fl, Qy1])
       ·have hlB : o.length ≠ 0 := fun q => hB (List.eq_nil_of_length_eq_zero q)
        have gr : ∀ id, apS deR id o = rsl deR id o := fun id => ZLk _ hlB
        have fa := fun (x : RSt) L k ys hb => qK0 (h := qB h i s x) (p := h.length) XD9 (r := deR) (sz := 35) rfl L k o 64 1 ys hlB hb (by decide) (by omega) (by unfold maxLen; omega)
        simp only [gr, Zsz, qtO, quq, simprocAttr, CO.tmps, Opd.tmps, optT, Nat.reducePow, Nat.reduceDiv, Nat.reduceMod, QjP, Yzo, qA4, ZMj, zWS, f1, f4, rk, g2, gi', Yex, c1, c2, c3, c5, w2, fa]
        refine ⟨k + 1, gi, by dsimp only; omega, ?_⟩
        simp only [hst, hst2, qFt, XtT]
        exact btQS H hok hh [0, 1, 2, 5] (by decide) (by simp only [YmE, FrSel, BlkSel, AV.ren, renL, AV.ok, okL, Option.some.injEq, exists_eq_left', List.length_cons, List.length_nil, Nat.reduceAdd, Nat.reduceLT, reduceCtorEq, implies_true, exists_eq', fi, fl, fd2, fw2]) (by simp only [YmE, FrSel, BlkSel, AV.ren, renL, AV.ok, okL, Option.some.injEq, exists_eq_left', List.length_cons, List.length_nil, Nat.reduceAdd, Nat.reduceLT, reduceCtorEq, implies_true, exists_eq', fi, fl, Qy1])
      ·obtain rfl : k = N := by omega
       have gi' : ((k : Int) < (k : Int)) = False := eq_false (by omega)
       obtain ⟨o, ho'⟩ : ∃ o, o = (YLQ bs x5 k).1.map dsc := ⟨_, rfl⟩
       simp only [Zsz, qtO, quq, simprocAttr, CO.tmps, Opd.tmps, optT, Nat.reducePow, Nat.reduceDiv, Nat.reduceMod, QjP, Yzo, qA4, ZMj, K9v, ZIi, f1, f4, r0, r1, r2, r3, e1, e2, e3, e5, w1, g3', g2, b1, b2, b3, b4, b6, ov, ZeW, YSK, Xx4, zE8, KtZ, Yex, zhz, List.all_append, ne_eq, not_true_eq_false, not_false_eq_true, decide_true, decide_false, gi', JBL, qQd, Qmy]
       exact K0g H hok hh (a := 0) (b := 3) (by simp) (by simp) (by decide) (ls := []) (ss := (YLQ bs x5 k).1.map dsc) (.inl rfl) (.inr rfl) (.i .i64 4 :: .s t :: deR.f (dsc deZ)) [.i .i64 0, .i .i64 0] (qZW _ _ _) (XMv _ _)
   have g7' := eq_false g7
   have hr : Knm bs x0 sz = ((⟨a2, [], deZ, [], []⟩, 20, 0), x2) := by
    unfold Knm
    simp only [e1, e2]
    rw [if_pos trivial, if_neg g3, if_neg g7]
   rw [hr]
   simp only [JaG, Qv6, Zsz, qtO, quq, simprocAttr, CO.tmps, Opd.tmps, optT, Nat.reducePow, Nat.reduceDiv, Nat.reduceMod, QjP, Yzo, qA4, ZMj, f1, f4, r0, r1, e1, e2, g3', g7', zE8, ne_eq, not_true_eq_false, not_false_eq_true, decide_true, decide_false, Qmy]
   exact K0g H hok hh (a := 0) (b := 1) (by simp) (by simp) (by decide) (ls := []) (ss := []) (.inl rfl) (.inl rfl) (.i .i64 a2 :: .s [] :: deR.f (dsc deZ)) [.i .i64 20, .i .i64 0] (qZW _ _ _) (XMv _ _)
  ·cases e
 ·cases e
end Go.Proofs.Ytpoojfnmhnedpaa
end
