/- Part 16 of what the laws' proofs rest on. No condition. -/
import Derived.Test.YtpoojfnmhnedpaaMe15
set_option linter.all false
section
namespace Go.Proofs.Ytpoojfnmhnedpaa
set_option maxRecDepth 100000
set_option maxHeartbeats 4000000
theorem JNh {ty : TypeId} {v : AV} {p : List UInt8 × Bool} (h : encV ty v = some p) : p.1.length ≠ 0 ∧ p.1.length ≤ 1000009 := by
 unfold encV at h
 split at h
 ·split at h
  ·rename_i n
   split at h
   ·cases h
    exact ⟨zt3 n, by have := q1l n; dsimp only; omega⟩
   ·cases h
  ·cases h
 split at h
 ·split at h
  ·rename_i l
   split at h
   ·rename_i hl
    cases h
    have := zt3 l.length
    have := q1l l.length
    dsimp only
    rw [List.length_append]
    omega
   ·cases h
  ·cases h
 split at h
 ·obtain ⟨d, _, hp⟩ := Option.map_eq_some_iff.1 h
  cases hp
  rw [d.h]
  decide
 ·cases h
section
variable {h : List AB} {i j : Nat} {lim : Int} {s : AV} {bs : List UInt8} {e : Int}
theorem rd_i (H : WrH h i j lim s bs e) : qhl h i = some [.p j 0, .i .i64 lim, s] := by unfold qhl; rw [H.hi]; rfl
theorem rd_j (H : WrH h i j lim s bs e) : qhl h j = some [.i .i64 e, .i .i64 0] := by unfold qhl; rw [H.hj]; rfl
theorem QgR (H : WrH h i j lim s bs e) (st : List UInt8 × Int) (k : Option Nat) (L : List AB) : ldV (wX h i j lim s st k ++ L) none (.p i 0) = some (.p j 0) ∧ ldV (wX h i j lim s st k ++ L) none (.p j 0) = some (.i .i64 st.2) := by
 have hil := H.il
 have hjl := H.jl
 constructor
 ·simp only [ldV, qhl]
  rw [List.getElem?_append_left (by rw [X9p]; exact hil), wX_i H]
  rfl
 ·simp only [ldV, qhl]
  rw [List.getElem?_append_left (by rw [X9p]; exact hjl), wX_j H]
  rfl
theorem KeN (H : WrH h i j lim s bs 0) (x : Int) (L : List AB) : qkr [.p j 0, .i .i64 x, .i .i64 0] (h ++ L) = some (.tu [], wX h i j lim s (bs, x) none ++ L) := by
 have hjl := H.jl
 have hj : (h ++ L)[j]? = some (.blk true true [.i .i64 0, .i .i64 0]) := by rw [List.getElem?_append_left hjl]; exact H.hj
 unfold qkr
 simp only [hj, if_true]
 rw [List.set_append_left _ _ hjl]
 rfl
theorem Yqf (H : WrH h i j lim s bs e) {enc : List UInt8} (h0 : enc.length ≠ 0) (hm : enc.length ≤ 1000009) (L : List AB) : appW (h ++ L) true 1 1 s enc.length (XQp.cells enc) = some (apS XQp (h.length + L.length) (bs ++ enc), YlR s h ++ (L ++ [resB XQp true (bs ++ enc)])) := by
 have hl1 := H.hlim
 have hl2 := H.hlen
 rcases H.hs with ⟨q1, q2⟩ | ⟨q, q1, q2, q3⟩
 ·rw [q1, q2, K2e, if_neg h0, if_pos ⟨by omega, by unfold maxLen; omega⟩, List.nil_append, YFm _ h0, qgk h0]
  rfl
 ·obtain ⟨p1, p2, p3, p4⟩ := H.q q1 q2
  have hne : bs.length + enc.length ≠ 0 := by omega
  have hg : (h ++ L)[q]? = some (.blk true true (XQp.cells bs)) := by rw [List.getElem?_append_left p4]; exact p1
  have hcl : (XQp.cells bs).length = bs.length := by rw [XQp.cells_len, ZGD]; omega
  rw [q1, YFm _ q2, X20 _ q2, ZPs q2]
  simp only [appW, YlR, hg]
  rw [if_neg h0, if_neg (by omega), if_pos ⟨trivial, by omega, by omega, by unfold maxLen; omega⟩, if_neg (by simp), if_pos ⟨trivial, by decide, trivial, by omega⟩, List.drop_zero, List.length_append, List.set_append_left _ _ p4, List.append_assoc]
  rfl
theorem st_w (H : WrH h i j lim s bs 0) (k : Nat) (bs' : List UInt8) (L : List AB) : stV (YlR s h ++ L) none (.p i 2) (apS XQp (h.length + k) bs') = some (wX h i j lim s (bs', 0) (some k) ++ L) := by
 have hq : i ∉ idOf s := by
  rcases H.hs with ⟨q1, q2⟩ | ⟨q, q1, q2, q3⟩
  ·rw [q1]; simp [idOf]
  ·obtain ⟨p1, p2, p3, p4⟩ := H.q q1 q2
   rw [q1, YFm _ q2]
   simp only [idOf, List.mem_singleton]
   exact Ne.symm p2
 have hqj : j ∉ idOf s := by
  rcases H.hs with ⟨q1, q2⟩ | ⟨q, q1, q2, q3⟩
  ·rw [q1]; simp [idOf]
  ·obtain ⟨p1, p2, p3, p4⟩ := H.q q1 q2
   rw [q1, YFm _ q2]
   simp only [idOf, List.mem_singleton]
   exact Ne.symm p3
 rw [QpM (h := YlR s h) (i := i) (fl := false) (cells := [.p j 0, .i .i64 lim, s]) (by rw [YAN hq]; exact H.hi) (o := 2) (Nat.le_refl 3) (by unfold apS; split <;> rfl) (ZGp _ _)]
 have : wX h i j lim s (bs', 0) (some k) = (YlR s h).set i (blkW j lim (apS XQp (h.length + k) bs')) := by
  simp only [wX]
  rw [YTL]
  rw [List.getElem?_set_ne H.ne, YAN hqj]
  exact H.hj
 rw [this]
 rfl
end
noncomputable def KxI : List AV → List AB → Option (AV × List AB)
 | [.p i 0, .ifc ty v], h => (encV ty v).bind fun p => wPut h i p.1 p.2
 | _, _ => none
theorem Y9L : Spec Try.prog 56 KxI := by
 intro args h v h' e
 unfold KxI at e
 split at e
 ·rename_i i ty x
  obtain ⟨⟨enc, ok⟩, hp, e⟩ := Option.bind_eq_some_iff.1 e
  obtain ⟨n0, n1⟩ := JNh hp
  dsimp only at e n0 n1
  unfold wPut at e
  obtain ⟨j, lim, s, bs, er, H, e⟩ := Z2u e
  dsimp only at e
  cases e
  unfold wOut
  refine FnAt.c (FnAt.run (by kernel_rfl) (T := ⟨[⟨57, ZJ7, fun _ => []⟩, ⟨58, YAu, fun _ => []⟩, ⟨76, qkr, wsP⟩, ⟨75, X7U, fun _ => []⟩], []⟩) ⟨⟨zWT, YgM, q0q, Xei, trivial⟩, trivial⟩ Try.func56 sw56 fun ho hh => ?_)
  have f1 := zW9 (rd_i H)
  have f2 := zW9 (rd_j H)
  have hl1 := H.hlim
  have hl2 := H.hlen
  have hso : s.ok (fun k => decide (k < h.length)) = true := by
   have := hh i _ H.hi
   simp only [blkW, AB.ok, Z3W, Bool.and_eq_true] at this
   exact this.2.2.1
  have hsl : s.isSl = true := by
   rcases H.hs with ⟨q1, q2⟩ | ⟨q, q1, q2, q3⟩
   ·rw [q1]; rfl
   ·rw [q1]; exact Jlo _ _
  have hsv : lenV s = some (bs.length : Int) := by
   rcases H.hs with ⟨q1, q2⟩ | ⟨q, q1, q2, q3⟩
   ·rw [q1, q2]; rfl
   ·rw [q1]; exact QHg _ _
  have s1 := QYh hsl
  have s2 := zZE hsl
  have s3 := YGb hsl
  have s4 : ∀ c lo hi anc past, s.ok (qOk (h.length + c) lo hi anc past) = true := fun c lo hi anc past => AV.ok_mono (fun k hk => qcC (by simp only [decide_eq_true_eq] at hk; omega)) s hso
  unfold w56
  by_cases g : er = 0
  case neg =>
   have g' := eq_false g
   have hw : wput lim bs er enc ok = (bs, er) := by unfold wput; rw [if_neg g]
   rw [hw, if_pos rfl, if_pos rfl]
   simp only [Qfy, Q7I, qe2, qur, X6x, simprocAttr, CO.tmps, Opd.tmps, optT, Nat.reducePow, Nat.reduceDiv, Nat.reduceMod, f1, f2, g', ZJ7, YAu, zBI, List.getElem?_cons_zero, List.getElem?_cons_succ, not_false_eq_true, decide_true]
   exact K2q (st := (bs, er)) (k := none) (d := 0) (L := []) H hh rfl _ rfl |> fun q => by
    unfold wOut at q
    rw [if_pos rfl, if_pos rfl] at q
    have e0 : wX h i j lim s (bs, er) none = h := by
     simp only [wX]
     exact YTL H.hj
    rw [e0] at q ⊢
    exact q
  subst g
  have ff := KeN H
  have fl := fun st k L => (QgR H st k L).1
  have fl2 := fun st k L => (QgR H st k L).2
  cases ok with
  | false =>
   have hw : wput lim bs 0 enc false = (bs, 3) := rfl
   rw [hw]
   simp only [Qfy, Q7I, qe2, qur, X6x, simprocAttr, CO.tmps, Opd.tmps, optT, Nat.reducePow, Nat.reduceDiv, Nat.reduceMod, f1, f2, ff, fl, fl2, hp, ZJ7, YAu, X7U, zBI, List.getElem?_cons_zero, List.getElem?_cons_succ, not_true_eq_false, not_false_eq_true, decide_true, decide_false, ne_eq]
   refine K2q (P := Try.prog) (st := (bs, 3)) (k := none) (d := 0) (L := [resB XQp true enc]) H hh rfl (.i .i64 3) rfl |> fun q => ?_
   unfold wOut at q
   rw [if_pos rfl, if_pos rfl] at q
   exact q
  | true =>
   have w1 : IntKind.i64.wrap ((bs.length : Int) + (enc.length : Int)) = (bs.length : Int) + (enc.length : Int) := zdT (by unfold In64; omega)
   by_cases g2 : lim < (bs.length : Int) + (enc.length : Int)
   ·have g2' := eq_true g2
    have hw : wput lim bs 0 enc true = (bs, 4) := by unfold wput; rw [if_pos rfl, if_pos rfl, if_pos g2]
    rw [hw]
    simp only [Qfy, Q7I, qe2, qur, X6x, simprocAttr, CO.tmps, Opd.tmps, optT, Nat.reducePow, Nat.reduceDiv, Nat.reduceMod, f1, f2, ff, fl, fl2, hp, g2', w1, s1, s2, s3, s4, hsv, ZJ7, YAu, X7U, zBI, List.getElem?_cons_zero, List.getElem?_cons_succ, not_true_eq_false, not_false_eq_true, decide_true, decide_false, ne_eq]
    refine K2q (P := Try.prog) (st := (bs, 4)) (k := none) (d := 0) (L := [resB XQp true enc]) H hh rfl (.i .i64 4) rfl |> fun q => ?_
    unfold wOut at q
    rw [if_pos rfl, if_pos rfl] at q
    exact q
   ·have g2' := eq_false g2
    have hw : wput lim bs 0 enc true = (bs ++ enc, 0) := by unfold wput; rw [if_pos rfl, if_pos rfl, if_neg g2]
    rw [hw]
    have gr : ∀ id, apS XQp id enc = rsl XQp id enc := fun id => JeD _ n0
    have fs := fun L k l e => QQ8 (h := h) (r := XQp) (sz := 1) rfl L k l e
    have fa := Yqf H n0 n1
    have fst := st_w H
    simp only [Qfy, Q7I, qe2, qur, X6x, simprocAttr, CO.tmps, Opd.tmps, optT, Nat.reducePow, Nat.reduceDiv, Nat.reduceMod, f1, f2, ff, fl, fl2, hp, g2', w1, s1, s2, s3, s4, hsv, gr, fs, fa, fst, qtp, ZJ7, YAu, X7U, zBI, List.getElem?_cons_zero, List.getElem?_cons_succ, not_true_eq_false, not_false_eq_true, decide_true, decide_false, ne_eq]
    exact K2q (st := (bs ++ enc, 0)) (k := some 1) (d := 0) H hh ⟨Nat.zero_le _, by rw [List.length_append]; omega, rfl⟩ (.i .i64 0) rfl
 ·cases e
end Go.Proofs.Ytpoojfnmhnedpaa
end
section
namespace Go.Proofs.Ytpoojfnmhnedpaa
set_option maxRecDepth 100000
set_option maxHeartbeats 4000000
noncomputable def J48 : List AV → List AB → Option (AV × List AB)
 | [.p i 0, .i .i64 n], h => if In64 n then wPut h i (Jmv n) (decide (0 ≤ n)) else none
 | _, _ => none
noncomputable def Z4B : List AV → List AB → Option (AV × List AB)
 | [.p i 0, .s l], h => if l.length ≤ 1000000 then wPut h i (Jmv l.length ++ l) true else none
 | _, _ => none
noncomputable def JaM : List AV → List AB → Option (AV × List AB)
 | [.p i 0, a], h => (Yhm a).bind fun d => wPut h i d.l true
 | _, _ => none
theorem Kl4 : Spec Try.prog 28 J48 := by
 intro args h v h' e
 unfold J48 at e
 split at e
 ·rename_i i n
  split at e
  ·rename_i hn
   refine FnAt.c (FnAt.run (by kernel_rfl) (T := ⟨[⟨56, KxI, fun _ => []⟩], []⟩) ⟨⟨Y9L, trivial⟩, trivial⟩ Try.func28 sw28 fun ho hh => ?_)
   have tp : KxI [.p i 0, .ifc 3 (.i .i64 n)] (h ++ []) = some (v, h') := by
    rw [List.append_nil]
    unfold KxI
    have : encV 3 (.i .i64 n) = some (Jmv n, decide (0 ≤ n)) := by
     unfold encV
     rw [if_pos rfl]
     exact if_pos hn
    simp only [this, Option.bind_some]
    exact e
   unfold w28
   simp only [Qfy, Q7I, qe2, qur, X6x, simprocAttr, CO.tmps, Opd.tmps, optT, Nat.reducePow, Nat.reduceDiv, Nat.reduceMod, zIw, tp]
   exact Bt.refl _ _ _
  ·cases e
 ·cases e
theorem Qm6 : Spec Try.prog 29 Z4B := by
 intro args h v h' e
 unfold Z4B at e
 split at e
 ·rename_i i l
  split at e
  ·rename_i hn
   refine FnAt.c (FnAt.run (by kernel_rfl) (T := ⟨[⟨56, KxI, fun _ => []⟩], []⟩) ⟨⟨Y9L, trivial⟩, trivial⟩ Try.func29 sw29 fun ho hh => ?_)
   have tp : KxI [.p i 0, .ifc 9 (.s l)] (h ++ []) = some (v, h') := by
    rw [List.append_nil]
    unfold KxI
    have : encV 9 (.s l) = some (Jmv l.length ++ l, true) := by
     unfold encV
     rw [if_neg (by decide), if_pos rfl]
     exact if_pos hn
    simp only [this, Option.bind_some]
    exact e
   unfold w29
   simp only [Qfy, Q7I, qe2, qur, X6x, simprocAttr, CO.tmps, Opd.tmps, optT, Nat.reducePow, Nat.reduceDiv, Nat.reduceMod, zIw, tp]
   exact Bt.refl _ _ _
  ·cases e
 ·cases e
theorem YeL : Spec Try.prog 35 JaM := by
 intro args h v h' e
 unfold JaM at e
 split at e
 ·rename_i i a
  obtain ⟨d, hd, e2⟩ := Option.bind_eq_some_iff.1 e
  clear e
  obtain rfl := Jqk hd
  unfold wPut at e2
  obtain ⟨j, lim, s, bs, er, H, e3⟩ := Z2u e2
  clear e2
  cases e3
  refine FnAt.c (FnAt.run (by kernel_rfl) (T := ⟨[⟨56, KxI, fun _ => []⟩], []⟩) ⟨⟨Y9L, trivial⟩, trivial⟩ Try.func35 sw35 fun ho hh => ?_)
  have ev : encV 23 (.ag (idR.f d)) = some (d.l, true) := by
   unfold encV
   rw [if_neg (by decide), if_neg (by decide), if_pos rfl, QSu]
   rfl
  obtain ⟨k, R, q1, q2, q3⟩ := KJ0 (D := []) (R := [.blk true true (idR.f d)]) H (st := (bs, er)) (k := none) rfl H.hlen d.l true
  rw [wX_0 H] at q1
  have tp : KxI [.p i 0, .ifc 23 (.ag (idR.f d))] (h ++ [.blk true true (idR.f d)]) = some (.i .i64 (wput lim bs er d.l true).2, wX h i j lim s (wput lim bs er d.l true) k ++ R) := by
   unfold KxI
   simp only [ev, Option.bind_some]
   exact q1
  obtain ⟨b1, b2, b3, b4, b5⟩ := ZrQ d.h
  rw [show d.l.map u8A = idR.f d from rfl] at *
  unfold w35
  simp only [Qfy, Q7I, qe2, qur, X6x, simprocAttr, CO.tmps, Opd.tmps, optT, Nat.reducePow, Nat.reduceDiv, Nat.reduceMod, zIw, b1, b2, b3, tp]
  exact K2q H hh q2 _ rfl
 ·cases e
end Go.Proofs.Ytpoojfnmhnedpaa
end
section
namespace Go.Proofs.Ytpoojfnmhnedpaa
set_option maxRecDepth 100000
set_option maxHeartbeats 4000000
open Classical in
noncomputable def Z5f (a : AV) : Option Dsc := if e : ∃ y, a = .ag (deR.f y) then some e.choose else none
theorem J1R (y : Dsc) : Z5f (.ag (deR.f y)) = some y := by
 unfold Z5f
 have hx : ∃ z, AV.ag (deR.f y) = .ag (deR.f z) := ⟨y, rfl⟩
 rw [dif_pos hx]
 have := hx.choose_spec
 injection this with h
 rw [deR.inj _ _ h.symm]
theorem JPQ {a : AV} {y : Dsc} (e : Z5f a = some y) : a = .ag (deR.f y) := by
 unfold Z5f at e
 split at e
 ·rename_i h
  cases e
  exact h.choose_spec
 ·cases e
def DB (d : Dsc) : Prop := In64 d.media ∧ In64 d.size ∧ d.plat.length ≤ 1000000
theorem KHu (n : Int) : FOk fun lim st => wN lim st n := ⟨fun lim st h => ZHa _ _ _ _ _ h, fun lim st => zhp _ _ _ _⟩
theorem YVz (t : List UInt8) : FOk fun lim st => wT lim st t := ⟨fun lim st h => ZHa _ _ _ _ _ h, fun lim st => zhp _ _ _ _⟩
theorem ZUB (t : List UInt8) : FOk fun lim st => wI lim st t := ⟨fun lim st h => ZHa _ _ _ _ _ h, fun lim st => zhp _ _ _ _⟩
theorem FOk.seq {f g : Int → List UInt8 × Int → List UInt8 × Int} (F : FOk f) (G : FOk g) : FOk fun lim st => g lim (f lim st) := ⟨fun lim st h => G.le _ _ (F.le _ _ h), fun lim st => by
 rcases F.grow lim st with q | q <;> rcases G.grow lim (f lim st) with q' | q'
 ·exact .inl (q'.trans q)
 ·exact .inr (by rw [← q]; exact q')
 ·exact .inr (by rw [q']; exact q)
 ·exact .inr (by omega)⟩
theorem YjD (d : De) : FOk fun lim st => wD lim st d := (((KHu _).seq (ZUB _)).seq (KHu _)).seq (YVz _)
theorem qmb : FOk fun _ st => st := ⟨fun _ _ h => h, fun _ _ => .inl rfl⟩
theorem Jjg (m : Man) : FOk fun lim st => wC lim st m := by
 unfold wC
 by_cases h : m.kind = 3
 ·simp only [if_pos h]
  exact YjD _
 ·simp only [if_neg h]
  exact qmb
theorem Kw1 : ∀ l : List De, FOk fun lim st => wDs lim st l
 | [] => qmb
 | d :: l => (YjD d).seq (Kw1 l)
theorem Ytc (l : List De) : FOk fun lim st => wR lim st l := (KHu _).seq (Kw1 l)
section
variable {h : List AB} {i j : Nat} {lim : Int} {s : AV} {bs : List UInt8} {e : Int}
theorem zte (H : WrH h i j lim s bs e) {m : Nat} {xs : List AV} (h1 : qhl h m = some xs) (h2 : xs.length ≠ 3) (h3 : xs.length ≠ 2) (h4 : ∃ (k : Nat) (c : AV), xs[k]? = some c ∧ ∀ b, c ≠ u8A b) : m ≠ i ∧ m ≠ j ∧ m ∉ idOf s := by
 refine ⟨?_, ?_, ?_⟩
 ·rintro rfl
  rw [rd_i H] at h1
  cases h1
  exact h2 rfl
 ·rintro rfl
  rw [rd_j H] at h1
  cases h1
  exact h3 rfl
 ·intro hm
  rcases H.hs with ⟨q1, q2⟩ | ⟨q, q1, q2, q3⟩
  ·rw [q1] at hm
   simp [idOf] at hm
  ·obtain ⟨p1, p2, p3, p4⟩ := H.q q1 q2
   rw [q1, YFm _ q2] at hm
   simp only [idOf, List.mem_singleton] at hm
   subst hm
   unfold qhl at h1
   rw [p1] at h1
   cases h1
   obtain ⟨k, c, hc, hn⟩ := h4
   rw [Kbg, List.getElem?_map] at hc
   cases hb : bs[k]? with
   | none => rw [hb] at hc; cases hc
   | some b =>
    rw [hb] at hc
    cases hc
    exact hn b rfl
theorem z5g (st : List UInt8 × Int) (k : Option Nat) (L : List AB) {m : Nat} {xs : List AV} (h1 : qhl h m = some xs) (hk : m ≠ i ∧ m ≠ j ∧ m ∉ idOf s) : qhl (wX h i j lim s st k ++ L) m = some xs := by
 have hlt : m < h.length := by
  unfold qhl at h1
  split at h1
  ·rename_i hB
   exact (List.getElem?_eq_some_iff.1 hB).1
  ·cases h1
 unfold qhl at h1 ⊢
 rw [List.getElem?_append_left (by rw [X9p]; exact hlt), Yhx st k hk.1 hk.2.1 hk.2.2]
 exact h1
theorem Qwm (st : List UInt8 × Int) (k : Option Nat) (L : List AB) {α : Type} {r : Row α} {t : AV} {l : List α} (h1 : Rd r h t l) (hk : ∀ m ∈ idOf t, l.length ≠ 0 → m ≠ i ∧ m ≠ j ∧ m ∉ idOf s) : Rd r (wX h i j lim s st k ++ L) t l := by
 by_cases h0 : l.length = 0
 ·refine ⟨?_, h1.2⟩
  have e1 := h1.1
  have hl := h1.len
  cases t <;> first | exact e1 | skip
  simp only [lenV, Option.some.injEq] at hl
  rename_i len cap k'
  obtain rfl : len = 0 := by omega
  simp only [rdS, if_true] at e1 ⊢
  exact e1
 ·obtain ⟨id, off, cap, k', xs, rfl, e1, e2, e3⟩ := h1.blk 0 (by omega)
  exact Rd.mk_sl (z5g st k L e1 (hk id (by simp [idOf]) h0)) rfl e2 e3 h1.2
end
theorem Q98 (d : Dsc) : (deR.f d)[0]? = some (.i .i64 d.media) ∧ (deR.f d)[33]? = some (.i .i64 d.size) ∧ (deR.f d)[34]? = some (.s d.plat) ∧ ((deR.f d).drop 1).take 32 = idR.f d.id := by
 have h : (idR.f d.id).length = 32 := idR.len _
 rw [z3j]
 refine ⟨rfl, ?_, ?_, ?_⟩
 ·rw [List.getElem?_cons_succ, List.getElem?_append_right (by omega), h]
  rfl
 ·rw [List.getElem?_cons_succ, List.getElem?_append_right (by omega), h]
  rfl
 ·show (idR.f d.id ++ _).take 32 = _
  exact List.take_left' h
noncomputable def T_E2 : List AV → List AB → Option (AV × List AB)
 | [a, .p wb 0], h => match qhl h wb with
  | some [.p i 0] => (Z5f a).bind fun d => open Classical in if DB d then wSeq (fun lim st => wD lim st d.de) h i else none
  | _ => none
 | _, _ => none
theorem Xvo : Spec Try.prog 34 T_E2 := by
 intro args h v h' e
 unfold T_E2 at e
 split at e
 ·rename_i a wb
  split at e
  ·rename_i i hwb
   obtain ⟨d, hd, e2⟩ := Option.bind_eq_some_iff.1 e
   clear e
   obtain rfl := JPQ hd
   split at e2
   ·rename_i hdb
    unfold wSeq at e2
    obtain ⟨j, lim, s, bs, er, H, e3⟩ := Z2u e2
    clear e2
    cases e3
    dsimp only
    refine FnAt.c (FnAt.run (by kernel_rfl) (T := ⟨[⟨28, J48, fun _ => []⟩, ⟨35, JaM, fun _ => []⟩, ⟨29, Z4B, fun _ => []⟩], []⟩) ⟨⟨Kl4, YeL, Qm6, trivial⟩, trivial⟩ Try.func34 sw34 fun ho hh => ?_)
    obtain ⟨b1, b2, b3, b4, b5⟩ := KoS d
    have kp := zte H hwb (by simp) (by simp) ⟨0, _, rfl, fun b => by unfold u8A; simp⟩
    have rw1 := fun st k L => z5g (lim := lim) (s := s) st k L hwb kp
    obtain ⟨k1, R1, q1, I1, l1⟩ := KJ0 (D := [.blk true true (deR.f d)]) (R := []) H (st := (bs, er)) (k := none) rfl H.hlen (Jmv d.media) (decide (0 ≤ d.media))
    obtain ⟨k2, R2, q2, I2, l2⟩ := KJ0 H I1 l1 d.id.l true
    obtain ⟨k3, R3, q3, I3, l3⟩ := KJ0 H I2 l2 (Jmv d.size) (decide (0 ≤ d.size))
    obtain ⟨k4, R4, q4, I4, l4⟩ := KJ0 H I3 l3 (Jmv d.plat.length ++ d.plat) true
    rw [wX_0 H] at q1
    dsimp only [List.singleton_append] at q1 q2 q3 q4
    have f1 := zW9 hwb
    have d1 := eq_true hdb.1
    have d2 := eq_true hdb.2.1
    have d3 := eq_true hdb.2.2
    unfold w34
    obtain ⟨c1, c2, c3, c4⟩ := Q98 d
    have gid := QSu d.id
    have wl := fun st k => X9p (h := h) (i := i) (j := j) (lim := lim) (s := s) st k
    have rw2 : ∀ st k L, ldV (wX h i j lim s st k ++ L) none (.p wb 0) = some (.p i 0) := fun st k L => by
     simp only [ldV, rw1 st k L]
     rfl
    simp only [Qfy, Q7I, qe2, qur, X6x, simprocAttr, CO.tmps, Opd.tmps, optT, Nat.reducePow, Nat.reduceDiv, Nat.reduceMod, Q3v, JFu, wl, f1, b1, b3, c1, c2, c3, c4, gid, rw2, d1, d2, d3, q1, q2, q3, q4, J48, JaM, Z4B]
    exact K2q H hh I4 _ rfl
   ·cases e2
  ·cases e
 ·cases e
end Go.Proofs.Ytpoojfnmhnedpaa
end
section
namespace Go.Proofs.Ytpoojfnmhnedpaa
set_option maxRecDepth 100000
set_option maxHeartbeats 4000000
theorem YoU {T : Env} {fr : List AV} {h : List AB} (x : Opd) : opR T (.capo x) fr h = (match x.ev fr with
  | .ns => some (.i .i64 0, h)
  | .sl _ _ _ c none => some (.i .i64 c, h)
  | _ => none) := by
 simp only [opR, CO.isCall, CO.run]
 cases x.ev fr <;> first | rfl | (rename_i k; cases k <;> rfl)
theorem J4o {T : Env} {fr : List AV} {h : List AB} (fl : Bool) (z : List AV) (by_ : Nat) (s n : Opd) : opR T (.apz fl z by_ s n) fr h = (match s.ev fr, n.ev fr with
  | .ns, .i _ m => if m = 0 then some (.ns, h) else if 0 < m ∧ m.toNat * by_ ≤ 140737488355328 ∧ m.toNat ≤ maxLen then newB h fl ((List.replicate m.toNat z).flatten) (fun k => .sl k 0 m.toNat m.toNat (some z.length)) else none
  | _, _ => none) := by
 simp only [opR, CO.isCall, CO.run]
 cases s.ev fr <;> first | rfl | (cases n.ev fr <;> rfl)
def zsD (n : Nat) : List AV := deR.cells (List.replicate n (dsc deZ))
theorem XMH (n : Nat) : (zsD n).length = n * 35 := by unfold zsD; rw [deR.cells_len, List.length_replicate]; rfl
theorem JIK (n : Nat) : (List.replicate n (deR.f (dsc deZ))).flatten = zsD n := by
 unfold zsD Row.cells
 rw [List.flatMap_replicate]
theorem Ket (n : Nat) : (zsD n).all (wrOk true) = true := q0H ZFy _
theorem zb6 (l : List Dsc) : (deR.cells l).all (wrOk true) = true := q0H ZFy l
noncomputable def Zx2 : List AV → List AB → Option (AV × List AB)
 | [.ns, .i .i64 n], h => if 0 ≤ n ∧ n ≤ 1000000 then (if n = 0 then some (.ns, h ++ [.dead]) else some (.sl h.length 0 0 n.toNat (some 35), h ++ [.blk true true (zsD n.toNat)])) else none
 | _, _ => none
theorem ZoB : Spec Try.prog 61 Zx2 := by
 intro args h v h' e
 unfold Zx2 at e
 split at e
 ·rename_i n
  split at e
  ·rename_i hn
   obtain ⟨N, rfl⟩ := Int.eq_ofNat_of_zero_le hn.1
   refine FnAt.c (FnAt.run (by kernel_rfl) (T := ⟨[], []⟩) ⟨trivial, trivial⟩ Try.func61 sw61 fun ho hh => ?_)
   have w0 : IntKind.i64.wrap (0 - 0) = 0 := rfl
   have w1 : IntKind.i64.wrap ((N : Int) - 0) = (N : Int) := by rw [Int.sub_zero]; exact zdT (by unfold In64; omega)
   have g0 : ((N : Int) < 0) = False := eq_false (by omega)
   unfold w61
   by_cases h0 : N = 0
   ·rw [if_pos (by omega)] at e
    cases e
    have g1 : ((0 : Int) < (N : Int)) = False := eq_false (by omega)
    simp only [Qfy, Q7I, qe2, qur, X6x, if_true, if_false, ↓reduceIte, Nat.reduceAdd, Nat.reduceSub, Nat.reduceLeDiff, Nat.reduceEqDiff, Nat.reduceMul, Nat.reduceLT, Int.reduceLT, Int.reduceLE, Int.reduceEq, CO.tmps, Opd.tmps, optT, Nat.reducePow, Nat.reduceDiv, Nat.reduceMod, YoU, J4o, w0, w1, g0, g1]
    rw [List.append_nil]
    exact Bt.pad _ _ 1
   ·rw [if_neg (by omega)] at e
    cases e
    have g1 : ((0 : Int) < (N : Int)) = True := eq_true (by omega)
    have g2 : ((N : Int) = 0) = False := eq_false (by omega)
    have g3 : (N * 64 ≤ 140737488355328 ∧ N ≤ maxLen) = True := eq_true ⟨by omega, by unfold maxLen; omega⟩
    have s1 : slL 35 .ns none (some (.i .i64 0)) none = some .ns := rfl
    have s2 : ∀ id k, slL 35 (.sl id 0 N N k) none (some (.i .i64 0)) none = some (.sl id 0 0 N k) := fun id k => by
     simp only [slL, bnd]
     rw [if_pos ⟨Int.le_refl _, by omega⟩]
     rfl
    simp only [Qfy, Q7I, qe2, qur, X6x, if_true, if_false, ↓reduceIte, Nat.reduceAdd, Nat.reduceSub, Nat.reduceLeDiff, Nat.reduceEqDiff, Nat.reduceMul, Nat.reduceLT, Int.reduceLT, Int.reduceLE, Int.reduceEq, CO.tmps, Opd.tmps, optT, Nat.reducePow, Nat.reduceDiv, Nat.reduceMod, YoU, J4o, w0, w1, g0, g1, g2, g3, s1, s2, ← Qwh, JIK, Ket, deR.len, JLP, Option.map_none, Option.map_some]
    exact Bt.eq rfl rfl
  ·cases e
 ·cases e
def catD (a b : List Dsc) (k : Nat) : Nat := if k = 0 then 0 else if k = 1 then a.length else a.length + b.length
open Classical in
noncomputable def XB5 : List AV → List AB → Option (AV × List AB)
 | [.sl id 0 2 _ _], h => match qhl h id with
  | some [l, s] => (getS deR h l).bind fun ls => (getS deR h s).bind fun ss => if ls.length + ss.length ≤ 100000 then some (apS deR h.length (ls ++ ss), h ++ [resB deR true (ls ++ ss)]) else none
  | _ => none
 | _, _ => none
def catX (a b : List Dsc) (k : Nat) : List AV :=
 if k = 0 then zsD (a.length + b.length) else if k = 1 then over (zsD (a.length + b.length)) 0 (deR.cells a) else over (over (zsD (a.length + b.length)) 0 (deR.cells a)) (a.length * 35) (deR.cells b)
theorem Xvv (a b : List Dsc) (k : Nat) : (catX a b k).length = (a.length + b.length) * 35 := by
 have ha : (deR.cells a).length = a.length * 35 := deR.cells_len a
 have hb : (deR.cells b).length = b.length * 35 := deR.cells_len b
 unfold catX
 split
 ·exact XMH _
 ·split
  ·rw [J4d _ _ _ (by rw [XMH, ha]; omega), XMH]
  ·rw [J4d _ _ _ (by rw [J4d _ _ _ (by rw [XMH, ha]; omega), XMH, hb]; omega), J4d _ _ _ (by rw [XMH, ha]; omega), XMH]
theorem KwQ (a b : List Dsc) : catX a b 2 = deR.cells (a ++ b) := by
 have ha : (deR.cells a).length = a.length * 35 := deR.cells_len a
 have hb : (deR.cells b).length = b.length * 35 := deR.cells_len b
 have hz := XMH (a.length + b.length)
 have e1 : ∀ Z : List AV, Z.length = (deR.cells a).length + (deR.cells b).length → over (over Z 0 (deR.cells a)) (deR.cells a).length (deR.cells b) = deR.cells a ++ deR.cells b := fun Z hZ => by
  have e1 : (deR.cells a ++ Z.drop (deR.cells a).length).take (deR.cells a).length = deR.cells a := List.take_left' rfl
  have e2 : (deR.cells a ++ Z.drop (deR.cells a).length).drop ((deR.cells a).length + (deR.cells b).length) = [] := List.drop_eq_nil_of_le (by rw [List.length_append, List.length_drop]; omega)
  simp only [over, List.take_zero, List.nil_append, Nat.zero_add, e1, e2, List.append_nil]
 have := e1 (zsD (a.length + b.length)) (by omega)
 rw [ha] at this
 show over (over (zsD (a.length + b.length)) 0 (deR.cells a)) (a.length * 35) (deR.cells b) = _
 rw [this]
 simp only [Row.cells, List.flatMap_append]
theorem Yv1 {h : List AB} (n len m : Nat) (xs ys : List AV) (hm : len + m ≤ n) (hy : len * 35 + ys.length ≤ xs.length) (ha : ys.all (wrOk true) = true) (h0 : m = 0 → ys = []) : appW (h ++ [.blk true true xs]) true 35 64 (.sl (h.length + 0) 0 len n (some 35)) m ys = some (.sl (h.length + 0) 0 (len + m) n (some 35), h ++ [.blk true true (over xs (len * 35) ys)]) := by
 unfold appW
 dsimp only
 by_cases q : m = 0
 ·rw [if_pos q, h0 q, q]
  have : over xs (len * 35) [] = xs := by simp [over]
  rw [this]
  rfl
 ·rw [if_neg q, if_pos hm, J4O, ZJU, Nat.zero_add, if_pos ⟨hy, ha⟩]
  rfl
theorem zBw : Spec Try.prog 38 XB5 := by
 intro args h v h' e
 unfold XB5 at e
 split at e
 ·rename_i id cap kk
  split at e
  ·rename_i l s hid
   obtain ⟨ls, hl, e⟩ := Kra e
   obtain ⟨ss, hs, e⟩ := Kra e
   split at e
   ·rename_i hlen
    cases e
    refine FnAt.c (FnAt.run (by kernel_rfl) (T := ⟨[⟨61, Zx2, fun _ => []⟩], []⟩) ⟨⟨ZoB, trivial⟩, trivial⟩ Try.func38 sw38 fun ho hh => ?_)
    have f1 := zW9 hid
    have okk : okL (fun i => decide (i < h.length)) [l, s] = true ∨ True := .inr trivial
    have l1 := QYh hl.isSl
    have l2 := zZE hl.isSl
    have l3 := hl.len
    have l4 := hl.src (sz := 35) rfl
    have t1 := QYh hs.isSl
    have t2 := zZE hs.isSl
    have t3 := hs.len
    have t4 := hs.src (sz := 35) rfl
    have w0 : IntKind.i64.wrap (0 + (ls.length : Int)) = (ls.length : Int) := by rw [Int.zero_add]; exact zdT (by unfold In64; omega)
    have w1 : IntKind.i64.wrap ((ls.length : Int) + (ss.length : Int)) = ((ls.length + ss.length : Nat) : Int) := by rw [Int.natCast_add]; exact zdT (by unfold In64; omega)
    have w2 : IntKind.i64.wrap (0 + 1) = 1 := rfl
    have w3 : IntKind.i64.wrap (1 + 1) = 2 := rfl
    have g0 : ((ls.length : Int) < 0) = False := eq_false (by omega)
    have g1 : (((ls.length + ss.length : Nat) : Int) < 0) = False := eq_false (by omega)
    have c0 : catD ls ss 0 = 0 := rfl
    have c1 : catD ls ss 1 = ls.length := rfl
    have c2 : catD ls ss 2 = ls.length + ss.length := rfl
    have ia : ∀ n : Nat, n < 2 → iadV 1 (.sl id 0 2 cap kk) (.i .i64 n) = some (.p id n) := fun n hn => by
     simp only [iadV]
     rw [if_pos ⟨by omega, by omega⟩]
     simp
    have lsl : lenV (.sl id 0 2 cap kk) = some 2 := rfl
    have i0 : iadV 1 (.sl id 0 2 cap kk) (.i .i64 0) = some (.p id 0) := ia 0 (by omega)
    have i1 : iadV 1 (.sl id 0 2 cap kk) (.i .i64 1) = some (.p id 1) := ia 1 (by omega)
    unfold w38
    simp only [Qfy, Q7I, qe2, qur, X6x, if_true, if_false, ↓reduceIte, Nat.reduceAdd, Nat.reduceSub, Nat.reduceLeDiff, Nat.reduceEqDiff, Nat.reduceMul, Nat.reduceLT, Int.reduceLT, Int.reduceLE, Int.reduceEq, CO.tmps, Opd.tmps, optT, Nat.reducePow, Nat.reduceDiv, Nat.reduceMod, f1, lsl]
    refine J4A (S := Nat) (fun k => 2 - k) (fun k => [.sl id 0 2 cap kk] ++ tp 2 ++ [.i .i64 (catD ls ss k)] ++ tp 5 ++ [.sl id 0 2 cap kk, .i .i64 2, .i .i64 k] ++ tp 24) (fun k => k ≤ 2) 0 (Nat.zero_le _) (by simp only [qe2, X6x, if_true, if_false, reduceIte, Nat.reduceAdd, Nat.reduceSub, Nat.reduceLeDiff, Nat.reduceEqDiff, Nat.reduceMul, Nat.reduceLT, Int.reduceLT, Int.reduceLE, Int.reduceEq, c0, Int.natCast_zero]) fun k hk => ?_
    rcases (by omega : k = 0 ∨ k = 1 ∨ k = 2) with rfl | rfl | rfl
    ·simp only [qe2, qur, X6x, if_true, if_false, ↓reduceIte, Nat.reduceAdd, Nat.reduceSub, Nat.reduceLeDiff, Nat.reduceEqDiff, Nat.reduceMul, Nat.reduceLT, Int.reduceLT, Int.reduceLE, Int.reduceEq, CO.tmps, Opd.tmps, optT, Nat.reducePow, Nat.reduceDiv, Nat.reduceMod, f1, i0, c0, w0, w2, g0, l1, l2, l3]
     exact ⟨1, by omega, by omega, fun _ _ h => h, fun _ _ h => h⟩
    ·simp only [qe2, qur, X6x, if_true, if_false, ↓reduceIte, Nat.reduceAdd, Nat.reduceSub, Nat.reduceLeDiff, Nat.reduceEqDiff, Nat.reduceMul, Nat.reduceLT, Int.reduceLT, Int.reduceLE, Int.reduceEq, CO.tmps, Opd.tmps, optT, Nat.reducePow, Nat.reduceDiv, Nat.reduceMod, f1, i1, c1, w1, w3, g1, t1, t2, t3]
     exact ⟨2, by omega, by omega, fun _ _ h => h, fun _ _ h => h⟩
    ·have gn : (((ls.length + ss.length : Nat) : Int) ≤ 1000000) = True := eq_true (by omega)
     by_cases h0 : ls.length + ss.length = 0
     ·have h0' : (((ls.length + ss.length : Nat) : Int) = 0) = True := eq_true (by omega)
      have a0 : ls.length = 0 := by omega
      have b0 : ss.length = 0 := by omega
      have m0 := eq_true a0
      have m1 := eq_true b0
      simp only [qe2, qur, X6x, if_true, if_false, ↓reduceIte, Nat.reduceAdd, Nat.reduceSub, Nat.reduceLeDiff, Nat.reduceEqDiff, Nat.reduceMul, Nat.reduceLT, Int.reduceLT, Int.reduceLE, Int.reduceEq, CO.tmps, Opd.tmps, optT, Nat.reducePow, Nat.reduceDiv, Nat.reduceMod, f1, lsl, c2, gn, h0', Zx2]
      refine J4A (S := Nat) (fun k => 2 - k) (fun k => tp 6 ++ [.ns] ++ tp 18 ++ [.sl id 0 2 cap kk, .i .i64 2, .i .i64 k] ++ tp 8) (fun k => k ≤ 2) 0 (Nat.zero_le _) (by simp only [qe2, X6x, if_true, if_false, reduceIte, Nat.reduceAdd, Nat.reduceSub, Nat.reduceLeDiff, Nat.reduceEqDiff, Nat.reduceMul, Nat.reduceLT, Int.reduceLT, Int.reduceLE, Int.reduceEq, Int.natCast_zero]) fun k hk => ?_
      rcases (by omega : k = 0 ∨ k = 1 ∨ k = 2) with rfl | rfl | rfl
      ·simp only [qe2, qur, X6x, if_true, if_false, ↓reduceIte, Nat.reduceAdd, Nat.reduceSub, Nat.reduceLeDiff, Nat.reduceEqDiff, Nat.reduceMul, Nat.reduceLT, Int.reduceLT, Int.reduceLE, Int.reduceEq, CO.tmps, Opd.tmps, optT, Nat.reducePow, Nat.reduceDiv, Nat.reduceMod, f1, i0, w2, l1, l2, l4, m0, zb6]
       exact ⟨1, by omega, by omega, fun _ _ h => h⟩
      ·simp only [qe2, qur, X6x, if_true, if_false, ↓reduceIte, Nat.reduceAdd, Nat.reduceSub, Nat.reduceLeDiff, Nat.reduceEqDiff, Nat.reduceMul, Nat.reduceLT, Int.reduceLT, Int.reduceLE, Int.reduceEq, CO.tmps, Opd.tmps, optT, Nat.reducePow, Nat.reduceDiv, Nat.reduceMod, f1, i1, w3, t1, t2, t4, m1, zb6]
       exact ⟨2, by omega, by omega, fun _ _ h => h⟩
      ·simp only [qe2, qur, X6x, if_true, if_false, ↓reduceIte, Nat.reduceAdd, Nat.reduceSub, Nat.reduceLeDiff, Nat.reduceEqDiff, Nat.reduceMul, Nat.reduceLT, Int.reduceLT, Int.reduceLE, Int.reduceEq, CO.tmps, Opd.tmps, optT, Nat.reducePow, Nat.reduceDiv, Nat.reduceMod, f1]
       have e1 : ls ++ ss = [] := by rw [List.eq_nil_of_length_eq_zero a0, List.eq_nil_of_length_eq_zero b0]; rfl
       rw [e1]
       exact Bt.eq rfl rfl
     ·have h0' : (((ls.length + ss.length : Nat) : Int) = 0) = False := eq_false (by omega)
      have x0 := Xvv ls ss 0
      have x1 := Xvv ls ss 1
      have ha : (deR.cells ls).length = ls.length * 35 := deR.cells_len ls
      have hb : (deR.cells ss).length = ss.length * 35 := deR.cells_len ss
      have y0 := Yv1 (h := h) (ls.length + ss.length) 0 ls.length (catX ls ss 0) (deR.cells ls) (by omega) (by omega) (zb6 _) (fun q => List.eq_nil_of_length_eq_zero (by omega))
      have y1 := Yv1 (h := h) (ls.length + ss.length) ls.length ss.length (catX ls ss 1) (deR.cells ss) (by omega) (by omega) (zb6 _) (fun q => List.eq_nil_of_length_eq_zero (by omega))
      rw [Nat.zero_mul, Nat.zero_add] at y0
      have z0 : zsD (ls.length + ss.length) = catX ls ss 0 := rfl
      have z1 : over (catX ls ss 0) 0 (deR.cells ls) = catX ls ss 1 := rfl
      have z2 : over (catX ls ss 1) (ls.length * 35) (deR.cells ss) = catX ls ss 2 := rfl
      rw [z1] at y0
      rw [z2] at y1
      simp only [qe2, qur, X6x, if_true, if_false, ↓reduceIte, Nat.reduceAdd, Nat.reduceSub, Nat.reduceLeDiff, Nat.reduceEqDiff, Nat.reduceMul, Nat.reduceLT, Int.reduceLT, Int.reduceLE, Int.reduceEq, CO.tmps, Opd.tmps, optT, Nat.reducePow, Nat.reduceDiv, Nat.reduceMod, f1, lsl, c2, gn, h0', Zx2, z0]
      refine QSO (S := Nat) (fun k => 2 - k) (fun k => tp 6 ++ [.sl (h.length + 0) 0 (catD ls ss k) (ls.length + ss.length) (some 35)] ++ tp 18 ++ [.sl id 0 2 cap kk, .i .i64 2, .i .i64 k] ++ tp 8) (fun k => h ++ [.blk true true (catX ls ss k)]) (fun k => k ≤ 2) 0 (Nat.zero_le _) (Bt.wk (by simp only [qe2, X6x, if_true, if_false, reduceIte, Nat.reduceAdd, Nat.reduceSub, Nat.reduceLeDiff, Nat.reduceEqDiff, Nat.reduceMul, Nat.reduceLT, Int.reduceLT, Int.reduceLE, Int.reduceEq, c0, Int.natCast_zero])) fun k hk => ?_
      rcases (by omega : k = 0 ∨ k = 1 ∨ k = 2) with rfl | rfl | rfl
      ·simp only [qe2, qur, X6x, if_true, if_false, ↓reduceIte, Nat.reduceAdd, Nat.reduceSub, Nat.reduceLeDiff, Nat.reduceEqDiff, Nat.reduceMul, Nat.reduceLT, Int.reduceLT, Int.reduceLE, Int.reduceEq, CO.tmps, Opd.tmps, optT, Nat.reducePow, Nat.reduceDiv, Nat.reduceMod, f1, i0, w2, l1, l2, l4, y0, c0, zb6]
       exact ⟨1, by omega, by dsimp only; omega, Bt.wk (by simp only [qe2, X6x, if_true, if_false, reduceIte, Nat.reduceAdd, Nat.reduceSub, Nat.reduceLeDiff, Nat.reduceEqDiff, Nat.reduceMul, Nat.reduceLT, Int.reduceLT, Int.reduceLE, Int.reduceEq, c1, Int.cast_ofNat_Int])⟩
      ·simp only [qe2, qur, X6x, if_true, if_false, ↓reduceIte, Nat.reduceAdd, Nat.reduceSub, Nat.reduceLeDiff, Nat.reduceEqDiff, Nat.reduceMul, Nat.reduceLT, Int.reduceLT, Int.reduceLE, Int.reduceEq, CO.tmps, Opd.tmps, optT, Nat.reducePow, Nat.reduceDiv, Nat.reduceMod, f1, i1, w3, t1, t2, t4, y1, c1, zb6]
       exact ⟨2, by omega, by dsimp only; omega, Bt.wk (by simp only [qe2, X6x, if_true, if_false, reduceIte, Nat.reduceAdd, Nat.reduceSub, Nat.reduceLeDiff, Nat.reduceEqDiff, Nat.reduceMul, Nat.reduceLT, Int.reduceLT, Int.reduceLE, Int.reduceEq, c2, Int.cast_ofNat_Int])⟩
      ·simp only [qe2, qur, X6x, if_true, if_false, ↓reduceIte, Nat.reduceAdd, Nat.reduceSub, Nat.reduceLeDiff, Nat.reduceEqDiff, Nat.reduceMul, Nat.reduceLT, Int.reduceLT, Int.reduceLE, Int.reduceEq, CO.tmps, Opd.tmps, optT, Nat.reducePow, Nat.reduceDiv, Nat.reduceMod, f1, c2]
       have e1 : (ls ++ ss).length = ls.length + ss.length := List.length_append
       refine Bt.eq ?_ ?_
       ·unfold apS
        rw [if_neg (by omega), e1, JLP]
        rfl
       ·unfold resB
        rw [if_neg (by omega), KwQ]
   ·cases e
  ·cases e
 ·cases e
end Go.Proofs.Ytpoojfnmhnedpaa
end
section
namespace Go.Proofs.Ytpoojfnmhnedpaa
set_option maxRecDepth 100000
set_option maxHeartbeats 4000000
noncomputable def T_E5 : List AV → List AB → Option (AV × List AB)
 | [.p wb 0], h => match qhl h wb with
  | some [.p i 0] => wSeq (fun lim st => wN lim st 77) h i
  | _ => none
 | _, _ => none
noncomputable def T_E6 : List AV → List AB → Option (AV × List AB)
 | [.p wb 0, .p mb 0], h => match qhl h wb, qhl h mb with
  | some [.p i 0], some (.i .i64 k :: _) => if In64 k then wSeq (fun lim st => wN lim st k) h i else none
  | _, _ => none
 | _, _ => none
noncomputable def T_E7 : List AV → List AB → Option (AV × List AB)
 | [.p wb 0, .p mb 0], h => match qhl h wb, qhl h mb with
  | some [.p i 0], some (_ :: .s t :: _) => if t.length ≤ 1000000 then wSeq (fun lim st => wT lim st t) h i else none
  | _, _ => none
 | _, _ => none
theorem ZPi : (In64 77) = True := eq_true (by unfold In64; omega)
theorem YjT : Spec Try.prog 40 T_E5 := by
 intro args h v h' e
 unfold T_E5 at e
 split at e
 ·rename_i wb
  split at e
  ·rename_i i hwb
   unfold wSeq at e
   obtain ⟨j, lim, s, bs, er, H, e3⟩ := Z2u e
   clear e
   cases e3
   dsimp only
   refine FnAt.c (FnAt.run (by kernel_rfl) (T := ⟨[⟨28, J48, fun _ => []⟩], []⟩) ⟨⟨Kl4, trivial⟩, trivial⟩ Try.func40 sw40 fun ho hh => ?_)
   obtain ⟨k1, R1, q1, I1, l1⟩ := KJ0 (D := []) (R := []) H (st := (bs, er)) (k := none) rfl H.hlen (Jmv 77) true
   rw [wX_0 H] at q1
   dsimp only [List.nil_append] at q1
   have f1 := zW9 hwb
   unfold w40
   simp only [Qfy, Q7I, qe2, qur, X6x, simprocAttr, CO.tmps, Opd.tmps, optT, Nat.reducePow, Nat.reduceDiv, Nat.reduceMod, f1, ZPi, q1, J48]
   exact K2q H hh I1 _ rfl
  ·cases e
 ·cases e
theorem Y2j : Spec Try.prog 41 T_E6 := by
 intro args h v h' e
 unfold T_E6 at e
 split at e
 ·rename_i wb mb
  split at e
  ·rename_i i kd rest hwb hmb
   split at e
   ·rename_i hk
    unfold wSeq at e
    obtain ⟨j, lim, s, bs, er, H, e3⟩ := Z2u e
    clear e
    cases e3
    dsimp only
    refine FnAt.c (FnAt.run (by kernel_rfl) (T := ⟨[⟨28, J48, fun _ => []⟩], []⟩) ⟨⟨Kl4, trivial⟩, trivial⟩ Try.func41 sw41 fun ho hh => ?_)
    obtain ⟨k1, R1, q1, I1, l1⟩ := KJ0 (D := []) (R := []) H (st := (bs, er)) (k := none) rfl H.hlen (Jmv kd) (decide (0 ≤ kd))
    rw [wX_0 H] at q1
    dsimp only [List.nil_append] at q1
    have f1 := zW9 hwb
    have f2 := zW9 hmb
    have d1 := eq_true hk
    unfold w41
    simp only [Qfy, Q7I, qe2, qur, X6x, simprocAttr, CO.tmps, Opd.tmps, optT, Nat.reducePow, Nat.reduceDiv, Nat.reduceMod, f1, f2, d1, q1, J48]
    exact K2q H hh I1 _ rfl
   ·cases e
  ·cases e
 ·cases e
theorem Xdl : Spec Try.prog 42 T_E7 := by
 intro args h v h' e
 unfold T_E7 at e
 split at e
 ·rename_i wb mb
  split at e
  ·rename_i i c0 t rest hwb hmb
   split at e
   ·rename_i hk
    unfold wSeq at e
    obtain ⟨j, lim, s, bs, er, H, e3⟩ := Z2u e
    clear e
    cases e3
    dsimp only
    refine FnAt.c (FnAt.run (by kernel_rfl) (T := ⟨[⟨29, Z4B, fun _ => []⟩], []⟩) ⟨⟨Qm6, trivial⟩, trivial⟩ Try.func42 sw42 fun ho hh => ?_)
    obtain ⟨k1, R1, q1, I1, l1⟩ := KJ0 (D := []) (R := []) H (st := (bs, er)) (k := none) rfl H.hlen (Jmv t.length ++ t) true
    rw [wX_0 H] at q1
    dsimp only [List.nil_append] at q1
    have f1 := zW9 hwb
    have f2 := zW9 hmb
    have d1 := eq_true hk
    unfold w42
    simp only [Qfy, Q7I, qe2, qur, X6x, simprocAttr, CO.tmps, Opd.tmps, optT, Nat.reducePow, Nat.reduceDiv, Nat.reduceMod, f1, f2, d1, q1, Z4B]
    exact K2q H hh I1 _ rfl
   ·cases e
  ·cases e
 ·cases e
open Classical in
noncomputable def T_E3 : List AV → List AB → Option (AV × List AB)
 | [.p mb 0, .p db 0], h => match qhl h mb, qhl h db with
  | some (.i .i64 k :: .s _ :: rest), some [.f (.func g) [] [.p wb 0]] => match qhl h wb with
   | some [.p i 0] => (Z5f (.ag (rest.take 35))).bind fun c => if g = 34 ∧ DB c ∧ rest.length = 37 then wSeq (fun lim st => if k = 3 then wD lim st c.de else st) h i else none
   | _ => none
  | _, _ => none
 | _, _ => none
theorem QlN : Spec Try.prog 36 T_E3 := by
 intro args h v h' e
 unfold T_E3 at e
 split at e
 ·rename_i mb db
  split at e
  ·rename_i kd t rest g wb hmb hdb
   split at e
   ·rename_i i hwb
    obtain ⟨c, hc, e2⟩ := Option.bind_eq_some_iff.1 e
    clear e
    split at e2
    ·rename_i hg
     obtain ⟨rfl, hD, hr⟩ := hg
     unfold wSeq at e2
     obtain ⟨j, lim, s, bs, er, H, e3⟩ := Z2u e2
     clear e2
     cases e3
     dsimp only
     refine FnAt.c (FnAt.run (by kernel_rfl) (T := ⟨[⟨34, T_E2, fun _ => []⟩], []⟩) ⟨⟨Xvo, trivial⟩, trivial⟩ Try.func36 sw36 fun ho hh => ?_)
     have f1 := zW9 hwb
     have f2 := zW9 hmb
     have f3 := zW9 hdb
     unfold w36
     by_cases g3 : kd = 3
     ·obtain ⟨k1, R1, q1, I1, l1⟩ := YBE (D := []) (R := []) H (YjD c.de) (st := (bs, er)) (k := none) rfl H.hlen
      rw [wX_0 H] at q1
      dsimp only [List.nil_append] at q1
      have g3' := eq_true g3
      have d1 := eq_true hD
      have r1 : (2 + 35 ≤ rest.length + 1 + 1) = True := eq_true (by omega)
      rw [if_pos g3]
      simp only [Qfy, Q7I, qe2, qur, X6x, simprocAttr, CO.tmps, Opd.tmps, optT, Nat.reducePow, Nat.reduceDiv, Nat.reduceMod, f1, f2, f3, g3', d1, r1, hc, q1, T_E2]
      exact K2q H hh I1 _ rfl
     ·have g3' := eq_false g3
      rw [if_neg g3]
      simp only [Qfy, Q7I, qe2, qur, X6x, simprocAttr, CO.tmps, Opd.tmps, optT, Nat.reducePow, Nat.reduceDiv, Nat.reduceMod, f1, f2, f3, g3']
      have := K2q (P := Try.prog) (st := (bs, er)) (k := none) (d := 0) (L := []) H hh rfl (.tu []) rfl
      rw [wX_0 H] at this
      exact this
    ·cases e2
   ·cases e
  ·cases e
 ·cases e
theorem K9M {h : List AB} {i j : Nat} {lim : Int} {s : AV} {m : Nat} {xs : List AV} (h1 : qhl h m = some xs) (hk : m ≠ i ∧ m ≠ j ∧ m ∉ idOf s) (st : List UInt8 × Int) (k : Option Nat) (L : List AB) (o : Nat) : ldV (wX h i j lim s st k ++ L) none (.p m o) = xs[o]? := by
 simp only [ldV, z5g st k L h1 hk, Option.bind_some]
theorem Qbd (fl m : Bool) (xs : List AV) : ∀ R : List AB, ownC (R ++ [.blk fl m xs]) R.length = some xs
 | [] => rfl
 | B :: R => by rw [List.cons_append, List.length_cons, JTL]; exact Qbd fl m xs R
theorem Kmy (fl : Bool) (xs : List AV) (o : Nat) (ys : List AV) : ∀ R : List AB, ownW (R ++ [.blk fl true xs]) R.length o ys = if o + ys.length ≤ xs.length ∧ ys.all (wrOk fl) = true then some (R ++ [.blk fl true (over xs o ys)]) else none
 | [] => by rw [List.nil_append, List.length_nil, ZJU]; rfl
 | B :: R => by
  rw [List.cons_append, List.length_cons, Jc7, Kmy fl xs o ys R]
  split <;> rfl
open Classical in
noncomputable def T_E4 : List AV → List AB → Option (AV × List AB)
 | [.p mb 0, .p wb 0, .p db 0], h => match qhl h mb, qhl h wb, qhl h db with
  | some (.i .i64 _ :: .s _ :: rest), some [.p i 0], some [.f (.func g) [] [.p wb' 0]] => match rest.drop 35 with
   | [l, s] => (getS deR h l).bind fun ls => (getS deR h s).bind fun ss => if g = 34 ∧ wb' = wb ∧ ls.length + ss.length ≤ 1000 ∧ ∀ d ∈ ls ++ ss, DB d then wSeq (fun lim st => wR lim st ((ls ++ ss).map Dsc.de)) h i else none
   | _ => none
  | _, _, _ => none
 | _, _ => none
theorem J17 : Spec Try.prog 37 T_E4 := by
 intro args h v h' e
 unfold T_E4 at e
 split at e
 ·rename_i mb wb db
  split at e
  ·rename_i kd t rest i g wb' hmb hwb hdb
   split at e
   ·rename_i l s hr
    obtain ⟨ls, hl, e1⟩ := Kra e
    clear e
    obtain ⟨ss, hs, e2⟩ := Kra e1
    clear e1
    split at e2
    ·rename_i hg
     obtain ⟨rfl, rfl, hlen, hD⟩ := hg
     unfold wSeq at e2
     obtain ⟨j, lim, sl0, bs, er, H, e3⟩ := Z2u e2
     clear e2
     cases e3
     dsimp only
     refine FnAt.c (FnAt.run (by kernel_rfl) (T := ⟨[⟨38, XB5, fun _ => []⟩, ⟨28, J48, fun _ => []⟩, ⟨34, T_E2, fun _ => []⟩], []⟩) ⟨⟨zBw, Kl4, Xvo, trivial⟩, trivial⟩ Try.func37 sw37 fun ho hh => ?_)
     have hrl : rest.length = 37 := by
      have := congrArg List.length hr
      rw [List.length_drop] at this
      simp at this
      omega
     have r35 : rest[35]? = some l := by rw [show rest[35]? = (rest.drop 35)[0]? by rw [List.getElem?_drop], hr]; rfl
     have r36 : rest[36]? = some s := by rw [show rest[36]? = (rest.drop 35)[1]? by rw [List.getElem?_drop], hr]; rfl
     have f1 := zW9 hwb
     have f2 := zW9 hmb
     have f3 := zW9 hdb
     have kw := zte H hwb (by simp) (by simp) ⟨0, _, rfl, fun b => by unfold u8A; simp⟩
     have kd' := zte H hdb (by simp) (by simp) ⟨0, _, rfl, fun b => by unfold u8A; simp⟩
     have a1 := K9M (lim := lim) (s := sl0) hwb kw
     have a2 := K9M (lim := lim) (s := sl0) hdb kd'
     have b1 := fun st k L => z5g (lim := lim) (s := sl0) st k L hwb kw
     have gl : ∀ L, getS deR (h ++ L) l = some ls := fun L => (hl.app L).get
     have gs : ∀ L, getS deR (h ++ L) s = some ss := fun L => (hs.app L).get
     have l1 := zZE hl.isSl
     have s1 := zZE hs.isSl
     have l2 := K1L hl.isSl
     have s2 := K1L hs.isSl
     have l3 := YGb hl.isSl
     have s3 := YGb hs.isSl
     have c1 : (ls.length + ss.length ≤ 100000) = True := eq_true (by omega)
     have hLn : (ls ++ ss).length = ls.length + ss.length := List.length_append
     obtain ⟨LL, hLL⟩ : ∃ LL, LL = ls ++ ss := ⟨_, rfl⟩
     rw [← hLL] at hD hLn ⊢
     have i64 : (In64 (LL.length : Int)) = True := eq_true (by unfold In64; omega)
     have nn : decide ((0 : Int) ≤ (LL.length : Int)) = true := decide_eq_true (by omega)
     obtain ⟨k1, R1, q1, I1, n1⟩ := KJ0 (D := [.blk false true [l, s], resB deR true LL]) (R := []) H (st := (bs, er)) (k := none) rfl H.hlen (Jmv LL.length) true
     rw [wX_0 H] at q1
     dsimp only [List.cons_append, List.nil_append] at q1
     have wl := fun st k => X9p (h := h) (i := i) (j := j) (lim := lim) (s := sl0) st k
     unfold w37
     simp only [Qfy, Q7I, qe2, qur, X6x, simprocAttr, CO.tmps, Opd.tmps, optT, Nat.reducePow, Nat.reduceDiv, Nat.reduceMod, Q3v, JFu, wl, f1, f2, f3, r35, r36, l1, l2, l3, s1, s2, s3, gl, gs, c1, ← hLL, i64, nn, QHg, q1, XB5, J48]
     obtain ⟨st1, hst1⟩ : ∃ st1, st1 = wput lim bs er (Jmv LL.length) true := ⟨_, rfl⟩
     obtain ⟨ds, hds⟩ : ∃ ds, ds = LL.map Dsc.de := ⟨_, rfl⟩
     have hfin : wR lim (bs, er) (LL.map Dsc.de) = wDs lim st1 ds := by
      unfold wR wN
      rw [List.length_map, nn, hst1, hds]
     rw [hfin]
     rw [← hst1] at I1 n1 ⊢
     have hdl : ds.length = LL.length := by rw [hds, List.length_map]
     refine QSO (S := Nat × Option Nat × List AB) (fun x => LL.length - x.1) (fun x => tp 2 ++ [.p db 0] ++ tp 13 ++ [apS deR (h.length + 1) LL, .i .i64 LL.length, .i .i64 x.1] ++ tp 7) (fun x => wX h i j lim sl0 (wDs lim st1 (ds.take x.1)) x.2.1 ++ (.blk false true [l, s] :: resB deR true LL :: x.2.2)) (fun x => x.1 ≤ LL.length ∧ WInv 2 bs (wDs lim st1 (ds.take x.1)) (.blk false true [l, s] :: resB deR true LL :: x.2.2) x.2.1 ∧ ((wDs lim st1 (ds.take x.1)).1.length : Int) ≤ lim) (0, k1, R1) ⟨Nat.zero_le _, I1, n1⟩ (Bt.wk (by simp only [qe2, X6x, simprocAttr, Int.natCast_zero])) fun x hx => ?_
     obtain ⟨n, k, R⟩ := x
     obtain ⟨hx1, hx2, hx3⟩ := hx
     dsimp only at hx1 hx2 hx3 ⊢
     by_cases gn : n < LL.length
     ·have gn' : ((n : Int) < (LL.length : Int)) = True := eq_true (by omega)
      have gr : ∀ id, apS deR id LL = rsl deR id LL := fun id => JeD _ (by omega)
      have e1 : IntKind.i64.wrap ((n : Int) + 1) = ((n + 1 : Nat) : Int) := zdT (by unfold In64; omega)
      have ia : iadV 35 (rsl deR (h.length + 1) LL) (.i .i64 n) = some (elP 35 (rsl deR (h.length + 1) LL) n 0) := by
       rw [QON (sz := 35) rfl, if_pos ⟨by omega, by omega⟩, Int.toNat_natCast]
      have fe : ∀ st k R, ldV (wX h i j lim sl0 st k ++ (.blk false true [l, s] :: resB deR true LL :: R)) (some 35) (elP 35 (rsl deR (h.length + 1) LL) n 0) = some (.ag (deR.f (LL.getD n deR.d))) := fun st k R =>
       KJw (wl st k) (r := deR) (sz := 35) rfl (.blk false true [l, s] :: resB deR true LL :: R) 1 LL n ⟨true, rfl⟩ gn
      obtain ⟨d, hd⟩ : ∃ d, d = LL.getD n deR.d := ⟨_, rfl⟩
      rw [← hd] at fe
      have hdm : d ∈ LL := by rw [hd, List.getD_eq_getElem?_getD, List.getElem?_eq_getElem gn]; exact List.getElem_mem gn
      have hD' := eq_true (hD d hdm)
      have hdd : ds[n]? = some d.de := by rw [hds, List.getElem?_map, hd, List.getD_eq_getElem?_getD, List.getElem?_eq_getElem gn]; rfl
      obtain ⟨b1', b2', b3', b4', b5'⟩ := KoS d
      obtain ⟨k2, R2, q2, I2, n2⟩ := YBE (D := [.blk false true [l, s], resB deR true LL]) (R := R ++ [.blk true true (deR.f d)]) H (YjD d.de) (st := wDs lim st1 (ds.take n)) (k := k) (by
       cases k with
       | none => exact hx2
       | some k => exact ⟨hx2.1, hx2.2.1, by
        show ((.blk false true [l, s] :: resB deR true LL :: R) ++ [.blk true true (deR.f d)])[k]? = _
        rw [List.getElem?_append_left (List.getElem?_eq_some_iff.1 hx2.2.2).1]
        exact hx2.2.2⟩) hx3
      rw [← XVY lim st1 ds hdd] at q2 I2 n2
      dsimp only [List.cons_append, List.nil_append] at q2 I2
      simp only [gr, qe2, qur, X6x, simprocAttr, CO.tmps, Opd.tmps, optT, Nat.reducePow, Nat.reduceDiv, Nat.reduceMod, Q3v, JFu, YRr, Kti, wl, gn', ia, fe, a2, b1, e1, b1', b2', b3', b5', Qbd, Kmy, J1R, hD', q2, T_E2]
      exact ⟨(n + 1, k2, R2), ⟨gn, I2, n2⟩, by dsimp only; omega, Bt.wk (by simp only [gr, qe2, X6x, simprocAttr])⟩
     ·obtain rfl : n = LL.length := by omega
      have gn' : ((LL.length : Int) < (LL.length : Int)) = False := eq_false (by omega)
      simp only [qe2, qur, X6x, simprocAttr, CO.tmps, Opd.tmps, optT, Nat.reducePow, Nat.reduceDiv, Nat.reduceMod, gn']
      rw [← hdl, List.take_length] at hx2 ⊢
      exact K2q H hh hx2 _ rfl
    ·cases e2
   ·cases e
  ·cases e
 ·cases e
end Go.Proofs.Ytpoojfnmhnedpaa
end
