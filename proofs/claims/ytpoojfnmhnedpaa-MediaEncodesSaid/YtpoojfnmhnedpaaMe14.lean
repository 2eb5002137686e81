/- Part 14 of what the laws' proofs rest on. No condition. -/
import Derived.Test.YtpoojfnmhnedpaaMe13
set_option linter.all false
section
namespace Go.Proofs.Ytpoojfnmhnedpaa
set_option maxRecDepth 100000
set_option maxHeartbeats 4000000
section
variable {h : List AB} {i j : Nat} {s : AV} {bs : List UInt8} {x : RSt}
theorem Zxz (H : RdH h i j s bs) (S : List Nat) (L : List AB) (y : RSt) : rB (YiL S [i, j] 0 (rB h i j s x ++ L)) i j s y = YiL S [i, j] 0 (rB h i j s y ++ L) := by
 have hi : i < (YiL S [i, j] 0 (rB h i j s x ++ L)).length := by rw [ZSR, List.length_append, XNE]; have := H.hi; omega
 have hj : j < (YiL S [i, j] 0 (rB h i j s x ++ L)).length := by rw [ZSR, List.length_append, XNE]; have := H.hj; omega
 have key : ∀ (G : List AB), i < G.length → j < G.length → ∀ k, (rB G i j s y)[k]? = if k = j then some (.blk true true [.i .i64 y.err, .i .i64 y.ea]) else if k = i then some (.blk false true [.p j 0, s, .i .i64 (y.pos : Nat)]) else G[k]? := fun G gi gj k => by
  unfold rB
  by_cases h1 : k = j
  ·rw [if_pos h1, h1, List.getElem?_set_self (by rw [List.length_set]; exact gj)]
  ·rw [if_neg h1, List.getElem?_set_ne (Ne.symm h1)]
   by_cases h2 : k = i
   ·rw [if_pos h2, h2, List.getElem?_set_self gi]
   ·rw [if_neg h2, List.getElem?_set_ne (Ne.symm h2)]
 refine List.ext_getElem? fun k => ?_
 rw [key _ hi hj]
 by_cases h1 : k = j
 ·rw [if_pos h1, h1, zKK (by simp), List.getElem?_append_left (by rw [XNE]; exact H.hj), rB_j H]
 ·rw [if_neg h1]
  by_cases h2 : k = i
  ·rw [if_pos h2, h2, zKK (by simp), List.getElem?_append_left (by rw [XNE]; exact H.hi), rB_i H]
  ·rw [if_neg h2, KFl, KFl]
   have e1 : ∀ z : RSt, (rB h i j s z ++ L)[k]? = (h ++ L)[k]? := fun z => by
    rw [List.getElem?_append, List.getElem?_append, XNE, QQi h2 h1]
   rw [e1, e1]
theorem JtC (H : RdH h i j s bs) (hx : x.pos ≤ bs.length) (L : List AB) (c anc n : Nat) (past : List Pt) (hn : n = h.length + L.length) : rdM (YiL (seen (h.length + c) anc past n) [i, j] 0 (rB h i j s x ++ L)) i = some (j, s, bs, x) := by
 unfold rdM
 have hs : Rd XQp (YiL (seen (h.length + c) anc past n) [i, j] 0 (rB h i j s x ++ L)) s bs := Rd.mask ((H.rB x).app L) fun k hk => by
  have := H.lt k hk
  exact ZaJ (by omega) (by omega)
 have g1 : (YiL (seen (h.length + c) anc past n) [i, j] 0 (rB h i j s x ++ L))[i]? = some (.blk false true [.p j 0, s, .i .i64 (x.pos : Nat)]) := by
  rw [zKK (by simp), List.getElem?_append_left (by rw [XNE]; exact H.hi), rB_i H]
 have g2 : (YiL (seen (h.length + c) anc past n) [i, j] 0 (rB h i j s x ++ L))[j]? = some (.blk true true [.i .i64 x.err, .i .i64 x.ea]) := by
  rw [zKK (by simp), List.getElem?_append_left (by rw [XNE]; exact H.hj), rB_j H]
 simp only [g1, g2]
 rw [hs.get, Option.bind_some, if_pos ⟨by omega, by omega, List.all_eq_true.2 fun k hk => decide_eq_true ⟨(H.q k hk).1, (H.q k hk).2, by have := H.lt k hk; rw [ZSR, List.length_append, XNE]; omega⟩, H.cap⟩, Int.toNat_natCast]
theorem XXu (H : RdH h i j s bs) (S : List Nat) (L X : List AB) (y : RSt) : KJX [i, j] (YiL S [i, j] 0 (rB h i j s y ++ L) ++ X) 0 (rB h i j s x ++ L) = rB h i j s y ++ (L ++ X) := by
 have hl : ∀ z : RSt, (rB h i j s z ++ L).length = h.length + L.length := fun z => by rw [List.length_append, XNE]
 have hi := H.hi
 have hj := H.hj
 rw [← List.append_assoc]
 refine List.ext_getElem? fun k => ?_
 rw [KN2, Nat.zero_add, hl]
 by_cases hk : k < h.length + L.length
 ·have g1 : (YiL S [i, j] 0 (rB h i j s y ++ L) ++ X)[k]? = (YiL S [i, j] 0 (rB h i j s y ++ L))[k]? := List.getElem?_append_left (by rw [ZSR, hl]; exact hk)
  have g2 : (rB h i j s y ++ L ++ X)[k]? = (rB h i j s y ++ L)[k]? := List.getElem?_append_left (by rw [hl]; exact hk)
  rw [if_pos hk, g1, g2]
  by_cases hm : k ∈ [i, j]
  ·rw [if_pos hm, zKK hm, List.getElem?_eq_getElem (by rw [hl]; exact hk)]
   rfl
  ·rw [if_neg hm]
   simp only [List.mem_cons, List.not_mem_nil, or_false, not_or] at hm
   have e1 : ∀ z : RSt, (rB h i j s z ++ L)[k]? = (h ++ L)[k]? := fun z => by
    rw [List.getElem?_append, List.getElem?_append, XNE, QQi hm.1 hm.2]
   rw [e1, e1]
 ·rw [if_neg hk, List.getElem?_append_right (by rw [ZSR, hl]; omega), List.getElem?_append_right (by rw [hl]; omega), ZSR, hl]
theorem XAN (H : RdH h i j s bs) (ho : s.ok (fun k => decide (k < h.length)) = true) :
  (∀ S (y : RSt) L, (YiL S [i, j] 0 (rB h i j s y ++ L)).length = h.length + L.length) ∧
  (∀ S (y : RSt) L X c lo hi anc past, ((YiL S [i, j] 0 (rB h i j s y ++ L) ++ X).getD i .dead).ok (qOk (h.length + c) lo hi anc past) = true) ∧ (∀ S (y : RSt) L X q, ((YiL S [i, j] 0 (rB h i j s y ++ L) ++ X).getD j .dead).ok q = true) ∧
  (∀ S (y : RSt) L X n, n = L.length → (YiL S [i, j] 0 (rB h i j s y ++ L) ++ X).drop (h.length + n) = X) ∧
  (∀ S (x y : RSt) L X, KJX [i, j] (YiL S [i, j] 0 (rB h i j s y ++ L) ++ X) 0 (rB h i j s x ++ L) = rB h i j s y ++ (L ++ X)) := by
 have l1 : ∀ (S : List Nat) (y : RSt) (L : List AB), (YiL S [i, j] 0 (rB h i j s y ++ L)).length = h.length + L.length := fun S y L => by rw [ZSR, List.length_append, XNE]
 have hi := H.hi
 have hj := H.hj
 refine ⟨l1, fun S y L X c lo hi anc past => ?_, fun S y L X q => ?_, fun S y L X n hn => List.drop_left' (by rw [l1, hn]), fun S x y L X => XXu (x := x) H S L X y⟩
 ·rw [List.getD_eq_getElem?_getD, List.getElem?_append_left (by rw [l1]; omega), zKK (by simp), List.getElem?_append_left (by rw [XNE]; omega), rB_i H]
  simp only [Option.getD_some, AB.ok, Z3W, Kt4, ok_i, Bool.and_true, Bool.and_eq_true]
  exact ⟨qcC (by omega), AV.ok_mono (fun k hk => qcC (by simp only [decide_eq_true_eq] at hk; omega)) s ho⟩
 ·rw [List.getD_eq_getElem?_getD, List.getElem?_append_left (by rw [l1]; omega), zKK (by simp), List.getElem?_append_left (by rw [XNE]; omega), rB_j H]
  rfl
end
theorem Y6S {T : Env} {fr : List AV} {h : List AB} (n sz : Nat) (x : Opd) (lo hi mx : Option Opd) : opR T (.sla n sz x lo hi mx) fr h = (slA n sz (x.ev fr) (lo.map (Opd.ev fr)) (hi.map (Opd.ev fr)) (mx.map (Opd.ev fr))).map (·, h) := _root_.id rfl
theorem Yqp (id : Nat) : slA 32 1 (.p id 0) none none none = some (.sl id 0 32 32 none) := _root_.id rfl
theorem XBJ {T : Env} {fr : List AV} {h : List AB} (str : Bool) (sz : Nat) (d s : Opd) : opR T (.cpy str sz d s) fr h = if (s.ev fr).isStr = str then cpyV h sz (d.ev fr) (s.ev fr) else none := _root_.id rfl
theorem J8u {T : Env} {ev : Opd → AV} (str : Bool) (sz : Nat) (d s : Opd) : wsC T ev (.cpy str sz d s) = idOf (ev d) := _root_.id rfl
theorem JqA {h : List AB} {i j : Nat} {s : AV} {bs : List UInt8} {x : RSt} (H : RdH h i j s bs) (L : List AB) (c anc n : Nat) (past : List Pt) (hn : n = h.length + L.length) : rdr (YiL (seen (h.length + c) anc past n) [] 0 (rB h i j s x ++ L)) i = some (j, s, ((x.pos : Nat) : Int), x.err, x.ea) := by
 have hi := H.hi
 have hj := H.hj
 have g1 : (YiL (seen (h.length + c) anc past n) [] 0 (rB h i j s x ++ L))[i]? = some (.blk false false [.p j 0, s, .i .i64 (x.pos : Nat)]) := by
  rw [ZlC (ZaJ (by omega) (by omega)) (by simp), List.getElem?_append_left (by rw [XNE]; exact H.hi), rB_i H]
  rfl
 have g2 : qhl (YiL (seen (h.length + c) anc past n) [] 0 (rB h i j s x ++ L)) j = some [.i .i64 x.err, .i .i64 x.ea] := by
  rw [QSn (ZaJ (by omega) (by omega))]
  unfold qhl
  rw [List.getElem?_append_left (by rw [XNE]; exact H.hj), rB_j H]
 unfold rdr
 simp only [g1, g2]
theorem Zl6 {B : List AB} {p : Nat} (hp : B.length = p) {xs : List AV} (hx : xs.length = 32) (m : Bool) (l : List UInt8) (hl : l.length ≤ 32) : cpyV (B ++ [.blk true true xs, resB XQp m l]) 1 (.sl (p + 0) 0 32 32 none) (rsl XQp (p + 1) l) = some (.i .i64 l.length, B ++ [.blk true true (over xs 0 (XQp.cells l)), resB XQp m l]) := by
 subst hp
 have e1 := QQ8 (h := B) (r := XQp) (sz := 1) rfl [.blk true true xs, resB XQp m l] 1 l ⟨m, rfl⟩
 unfold cpyV
 rw [e1]
 simp only [Option.bind_some]
 rw [if_pos hl, J4O, ZJU, if_pos ⟨by rw [XQp.cells_len, ZGD, hx]; omega, qtp l⟩]
 rfl
theorem qkR (zs l : List AV) (h : l.length = zs.length) : over zs 0 l = l := by
 simp only [over, List.take_zero, List.nil_append, Nat.zero_add]
 rw [List.drop_eq_nil_of_le (by omega), List.append_nil]
theorem ZrQ {l : List UInt8} (h : l.length = 32) : (l.map u8A).length = 32 ∧ (l.map u8A).take 32 = l.map u8A ∧ (l.map u8A).all (wrOk true) = true ∧ (∀ q, okL q (l.map u8A) = true) ∧ over (l.map u8A) 0 (l.map u8A) = l.map u8A := by
 have e : (l.map u8A).length = 32 := by rw [List.length_map, h]
 exact ⟨e, List.take_of_length_le (by omega), YCa l, fun q => qYl q l, qkR _ _ rfl⟩
theorem btD {P : Program} {h : List AB} {i j : Nat} {s : AV} {bs : List UInt8} (H : RdH h i j s bs) (hok : s.ok (fun k => decide (k < h.length)) = true) (hh : HOk h) {x : RSt} {v a : AV} (L : List AB) (e : v = a) (ho : v.ok (fun k => decide (k < h.length)) = true) : Bt P h.length [v] (rB h i j s x ++ L) [a] (rB h i j s x) := by
 have := Bt.drop (P := P) (h := rB h i j s x) (v := v) (a := a) L (qfE H hok hh x) e (by rw [XNE]; exact ho)
 rw [XNE] at this
 exact this
noncomputable def JJr : List AV → List AB → Option (AV × List AB)
 | [.p i 0], h => (rdM h i).bind fun y => if y.2.2.1.length ≤ 1000000 then some (.ag ((rdID y.2.2.1 y.2.2.2).1.map u8A), rB h i y.1 y.2.1 (rdID y.2.2.1 y.2.2.2).2) else none
 | _, _ => none
theorem Yyz : Spec Try.prog 80 JJr := by
 intro args h v h' e
 unfold JJr at e
 split at e
 ·rename_i i
  obtain ⟨j, s, bs, n, er, a, hi, hj, H, hn, e⟩ := ZQG e
  split at e
  ·rename_i hlen
   cases e
   refine FnAt.c (FnAt.run (by kernel_rfl) (T := ⟨[⟨86, ZZC, fun _ => []⟩, ⟨87, z2F, fun _ => [i, j]⟩], []⟩) ⟨⟨qXO, J0q, trivial⟩, trivial⟩ Try.func80 sw80 fun ho hh => ?_)
   have hok := ZqH hh hi
   have e0 : h ++ [] = rB h i j s ⟨n, er, a⟩ ++ [] := by rw [YgC hi hj]
   rw [e0]
   dsimp only at hlen ⊢
   have f1 := QbU H hok
   have f2 := zox H hok
   have f3 := fun L c anc n' past => JtC (x := ⟨n, er, a⟩) H hn L c anc n' past
   have f4 := fun x => Zxz (x := x) H
   have fm := XAN H hok
   have g2 : (bs.length ≤ 1000000) = True := eq_true hlen
   have f5 := fun L c anc n' past => JqA (x := ⟨n, er, a⟩) H L c anc n' past
   have mk := fun (x : RSt) c anc n' past L => Ysp (h := rB h i j s x) (p := h.length) XNE c anc n' past [h.length + 0] L
   have mg := fun (x : RSt) G l => JHl (h := rB h i j s x) [h.length + 0] G l
   obtain ⟨y, hy⟩ : ∃ y, y = Q47 bs ⟨n, er, a⟩ 32 (if er = 0 then (n : Int) else 0) := ⟨_, rfl⟩
   have hr : rdID bs ⟨n, er, a⟩ = (if y.1.length = 32 then y.1 else List.replicate 32 0, y.2) := by rw [hy]; rfl
   have t32 : Int.toNat 32 = 32 := rfl
   have hfz : ∀ x : RSt, ((rB h i j s x).map AB.freeze).length = h.length := fun x => by rw [List.length_map, XNE]
   rw [hr]
   have hol := Kez bs ⟨n, er, a⟩ 32 (if er = 0 then (n : Int) else 0)
   rw [← hy] at hol
   unfold w80
   rcases hol with hol | hol
   ·have cp := fun (x : RSt) m (xs : List AV) hx => Zl6 (hfz x) (xs := xs) hx m y.1 (Nat.le_of_eq hol)
    rw [if_pos hol]
    have o1 : ∀ zs : List AV, zs.length = 32 → over zs 0 (XQp.cells y.1) = y.1.map u8A := fun zs hz => by rw [Kbg]; exact qkR zs _ (by rw [List.length_map, hol, hz])
    obtain ⟨b1, b2, b3, b4, b5⟩ := ZrQ hol
    simp only [Qfy, Q7I, qe2, qur, X6x, simprocAttr, CO.tmps, Opd.tmps, optT, Nat.reducePow, Nat.reduceDiv, Nat.reduceMod, Q3v, JFu, YRr, Kti, Zap, Jm3, f1, f2, f3, f4, f5, fm, mk, mg, cp, g2, hfz, o1, b1, b2, b3, b4, b5, ← hy, t32, XRQ H hok hh, zac, Y6S, Yqp, XBJ, J8u, Option.map_none, ZZC, z2F, List.getElem?_cons_zero, List.getElem?_cons_succ]
    exact btD H hok hh _ rfl (by rw [YwG]; exact b4 _)
   ·have h0 : y.1.length ≤ 32 := by rw [hol]; exact Nat.zero_le _
    have cp := fun (x : RSt) m (xs : List AV) hx => Zl6 (hfz x) (xs := xs) hx m y.1 h0
    rw [if_neg (by rw [hol]; decide)]
    have o1 : ∀ zs : List AV, over zs 0 (XQp.cells y.1) = zs := fun zs => by rw [hol]; exact QEJ zs
    simp only [Qfy, Q7I, qe2, qur, X6x, simprocAttr, CO.tmps, Opd.tmps, optT, Nat.reducePow, Nat.reduceDiv, Nat.reduceMod, Q3v, JFu, YRr, Kti, Zap, Jm3, f1, f2, f3, f4, f5, fm, mk, mg, cp, g2, hfz, o1, ← hy, t32, XRQ H hok hh, zac, Y6S, Yqp, XBJ, J8u, Option.map_none, ZZC, z2F, List.getElem?_cons_zero, List.getElem?_cons_succ]
    exact btD H hok hh _ rfl rfl
  ·cases e
 ·cases e
end Go.Proofs.Ytpoojfnmhnedpaa
end
section
namespace Go.Proofs.Ytpoojfnmhnedpaa
set_option maxRecDepth 100000
set_option maxHeartbeats 4000000
theorem de_f {d : De} (h : d.id.length = 32) : deR.f (dsc d) = .i .i64 d.media :: (d.id.map u8A ++ [.i .i64 d.size, .s d.plat]) := by
 rw [z3j]
 unfold dsc
 dsimp only
 rw [dif_pos h]
 rfl
theorem J9u {M : List AV} (h : M.length = 32) : (∀ zs : List AV, over zs 0 M = M ++ zs.drop 32) ∧ (∀ a b v : AV, over (M ++ [a, b]) 32 [v] = M ++ [v, b]) ∧ (∀ a b v : AV, over (M ++ [a, b]) 33 [v] = M ++ [a, v]) ∧ (∀ a b : AV, (M ++ [a, b]).take 34 = M ++ [a, b]) ∧ (∀ a b : AV, (M ++ [a, b]).length = 34) ∧ (∀ (a b : AV), over (M ++ [a, b]) 0 (M ++ [a, b]) = M ++ [a, b]) := by
 have l2 : ∀ a b : AV, (M ++ [a, b]).length = 34 := fun a b => by simp [h]
 refine ⟨fun zs => by simp [over, h], fun a b v => ?_, fun a b v => ?_, fun a b => List.take_of_length_le (by rw [l2]; exact Nat.le_refl _), l2, fun a b => qkR _ _ rfl⟩
 ·unfold over
  rw [List.take_left' h, List.append_assoc]
  congr 1
  rw [show 32 + [v].length = M.length + 1 by rw [h]; rfl, ← List.drop_drop, List.drop_left' rfl]
  rfl
 ·have e : M ++ [a, b] = (M ++ [a]) ++ [b] := by simp
  unfold over
  rw [e, List.take_left' (by simp [h])]
  rw [List.drop_eq_nil_of_le (by simp [h])]
  simp
theorem q43 (q : Nat → Bool) : ∀ a b : List AV, okL q (a ++ b) = (okL q a && okL q b)
 | [], b => rfl
 | x :: a, b => by rw [List.cons_append, Z3W, Z3W, q43 q a b, Bool.and_assoc]
theorem ZRd {bs : List UInt8} {x : RSt} (h : x.pos ≤ bs.length) : (rdID bs x).2.pos ≤ bs.length := q6m _ _ h
theorem qBe {bs : List UInt8} {x : RSt} (m : Int) (h : x.pos ≤ bs.length) : (YVk bs x m).2.pos ≤ bs.length := q6m _ _ (ZtG m h)
theorem YVG {bs : List UInt8} {x : RSt} (h : x.pos ≤ bs.length) : (rdDe bs x).2.pos ≤ bs.length := qBe _ (YA5 (ZRd (YA5 h)))
noncomputable def ZBr : List AV → List AB → Option (AV × List AB)
 | [.ag [.p i 0, .i .i64 _]], h => (rdM h i).bind fun y => if y.2.2.1.length ≤ 1000000 then some (.ag (deR.f (dsc (rdDe y.2.2.1 y.2.2.2).1)), rB h i y.1 y.2.1 (rdDe y.2.2.1 y.2.2.2).2) else none
 | _, _ => none
theorem zLa : Spec Try.prog 68 ZBr := by
 intro args h v h' e
 unfold ZBr at e
 split at e
 ·rename_i i sz
  obtain ⟨j, s, bs, n, er, a, hi, hj, H, hn, e⟩ := ZQG e
  split at e
  ·rename_i hlen
   cases e
   refine FnAt.c (FnAt.run (by kernel_rfl) (T := ⟨[⟨66, Z8o, fun _ => []⟩, ⟨80, JJr, fun _ => []⟩, ⟨67, JWq, fun _ => []⟩], []⟩) ⟨⟨YKN, Yyz, JRb, trivial⟩, trivial⟩ Try.func68 sw68 fun ho hh => ?_)
   have hok := ZqH hh hi
   have e0 : h ++ [] = rB h i j s ⟨n, er, a⟩ ++ [] := by rw [YgC hi hj]
   rw [e0]
   dsimp only at hlen ⊢
   have f1 := QbU H hok
   have f4 := fun x => qWR (x := x) H
   have g2 : (bs.length ≤ 1000000) = True := eq_true hlen
   obtain ⟨x0, hx0⟩ : ∃ x0 : RSt, x0 = ⟨n, er, a⟩ := ⟨_, rfl⟩
   rw [← hx0]
   have n0 : x0.pos ≤ bs.length := by rw [hx0]; exact hn
   have n1 := YA5 n0
   have n2 := ZRd n1
   have n3 := YA5 n2
   have r0 := zZ3 H n0
   have r1 := zZ3 H n1
   have r2 := zZ3 H n2
   have r3 := zZ3 H n3
   have hid := YTS bs (zdk bs x0).2
   obtain ⟨b1, b2, b3, b4, b5⟩ := ZrQ hid
   have ov := J9u b1
   have hr : deR.f (dsc (rdDe bs x0).1) = .i .i64 (zdk bs x0).1 :: ((rdID bs (zdk bs x0).2).1.map u8A ++ [.i .i64 (zdk bs (rdID bs (zdk bs x0).2).2).1, .s (YVk bs (zdk bs (rdID bs (zdk bs x0).2).2).2 4096).1]) := de_f hid
   have hr2 : (rdDe bs x0).2 = (YVk bs (zdk bs (rdID bs (zdk bs x0).2).2).2 4096).2 := rfl
   rw [hr, hr2]
   unfold w68
   simp only [Qfy, Q7I, qe2, qur, X6x, simprocAttr, CO.tmps, Opd.tmps, optT, Nat.reducePow, Nat.reduceDiv, Nat.reduceMod, Q3v, JFu, YRr, Kti, Zap, Jm3, f1, f4, r0, r1, r2, r3, g2, b1, b3, ov, Z8o, JJr, JWq, List.all_append, List.getElem?_cons_zero, List.getElem?_cons_succ]
   trace_state
   exact btD H hok hh _ rfl (by rw [YwG, Z3W, q43, b4]; rfl)
  ·cases e
 ·cases e
end Go.Proofs.Ytpoojfnmhnedpaa
end
section
namespace Go.Proofs.Ytpoojfnmhnedpaa
set_option maxRecDepth 100000
set_option maxHeartbeats 4000000
theorem JAf {P : Program} {h : List AB} {i j : Nat} {s : AV} {bs : List UInt8} (H : RdH h i j s bs) (hok : s.ok (fun k => decide (k < h.length)) = true) (hh : HOk h) {x : RSt} {l l' : List AB} {fr fr' : List AV} (sel : List Nat) (hnd : sel.Nodup) (hb : BlkSel h.length sel sel.length l sel l') (hfr : FrSel h.length sel sel.length fr fr') : Bt P h.length fr (rB h i j s x ++ l) fr' (rB h i j s x ++ l') := by
 have := Bt.sel (P := P) (h := rB h i j s x) (l := l) (l' := l') (fr := fr) (fr' := fr') sel (qfE H hok hh x) hnd (by rw [XNE]; exact hb) (by rw [XNE]; exact hfr)
 rw [XNE] at this
 exact this
theorem ZFy (x : Dsc) : (deR.f x).all (wrOk true) = true := by
 have h := YgR x
 rw [List.all_eq_true]
 intro a ha
 have := h a ha
 cases a <;> first | rfl | (cases this; done)
theorem KoS (d : Dsc) : (deR.f d).length = 35 ∧ (deR.f d).take 35 = deR.f d ∧ (deR.f d).all (wrOk true) = true ∧ (∀ q, okL q (deR.f d) = true) ∧ (∀ zs : List AV, zs.length = 35 → over zs 0 (deR.f d) = deR.f d) := by
 have h : (deR.f d).length = 35 := deR.len d
 exact ⟨h, List.take_of_length_le (by omega), ZFy d, fun q => QEK q d, fun zs hz => qkR _ _ (by omega)⟩
theorem Zj1 {bs : List UInt8} {x : RSt} (h : x.pos ≤ bs.length) : ∀ n, (Jkm bs x n).2.pos ≤ bs.length
 | 0 => h
 | n + 1 => YVG (Zj1 h n)
noncomputable def z3J : List AV → List AB → Option (AV × List AB)
 | [.i .i64 n, .f (.func g) [.ag [.p i 0, .i .i64 _]] []], h => if g = 68 ∧ 0 ≤ n ∧ n ≤ 1000 then (rdM h i).bind fun y => if y.2.2.1.length ≤ 1000000 then some (apS deR h.length ((Jkm y.2.2.1 y.2.2.2 n.toNat).1.map dsc), rB h i y.1 y.2.1 (Jkm y.2.2.1 y.2.2.2 n.toNat).2 ++ [resB deR true ((Jkm y.2.2.1 y.2.2.2 n.toNat).1.map dsc)]) else none else none
 | _, _ => none
theorem Z5B : Spec Try.prog 70 z3J := by
 intro args h v h' e
 unfold z3J at e
 split at e
 ·rename_i n0 g i sz
  split at e
  ·rename_i hg
   obtain ⟨rfl, hn0, hn1⟩ := hg
   obtain ⟨N, rfl⟩ := Int.eq_ofNat_of_zero_le hn0
   obtain ⟨j, s, bs, n, er, a, hi, hj, H, hn, e⟩ := ZQG e
   split at e
   ·rename_i hlen
    cases e
    rw [Int.toNat_natCast]
    refine FnAt.c (FnAt.run (by kernel_rfl) (T := ⟨[⟨68, ZBr, fun _ => []⟩], []⟩) ⟨⟨zLa, trivial⟩, trivial⟩ Try.func70 sw70 fun ho hh => ?_)
    have hok := ZqH hh hi
    have e0 : h ++ [] = rB h i j s ⟨n, er, a⟩ ++ [] := by rw [YgC hi hj]
    rw [e0]
    dsimp only at hlen ⊢
    have f1 := QbU H hok
    have f4 := fun x => qWR (x := x) H
    have g2 : (bs.length ≤ 1000000) = True := eq_true hlen
    obtain ⟨x0, hx0⟩ : ∃ x0 : RSt, x0 = ⟨n, er, a⟩ := ⟨_, rfl⟩
    rw [← hx0]
    have n0 : x0.pos ≤ bs.length := by rw [hx0]; exact hn
    have mm : ∀ v : AV, v.ok (fun i => decide (i < h.length)) = true → ∀ c, v.ok (fun i => decide (i < h.length + c)) = true := fun v q c => AV.ok_mono (fun i q => by simp only [decide_eq_true_eq] at q ⊢; omega) v q
    have rn : ∀ (t : AV), t.ok (fun i => decide (i < h.length)) = true → ∀ sel, Wk (t.ren (selN h.length sel)) t := fun t ht sel => Wk.ren (fun i hi => zLb hi) ht
    simp only [Z3W, Bool.and_eq_true] at ho
    have fo := mm _ ho.2.1
    have fr := rn _ ho.2.1
    have fi : ∀ sel, selN h.length sel i = i := fun sel => zLb H.hi
    have fl : ∀ c, (i < h.length + c) = True := fun c => eq_true (by have := H.hi; omega)
    unfold w70
    simp only [Qfy, Q7I, qe2, qur, X6x, simprocAttr, CO.tmps, Opd.tmps, optT, Nat.reducePow, Nat.reduceDiv, Nat.reduceMod]
    refine QSO (S := Nat) (fun k => N - k) (fun k => tp 1 ++ [.f (.func 68) [.ag [.p i 0, .i .i64 sz]] []] ++ tp 2 ++ [apS deR (h.length + 0) ((Jkm bs x0 k).1.map dsc), .i .i64 N, .i .i64 k] ++ tp 8) (fun k => rB h i j s (Jkm bs x0 k).2 ++ [resB deR true ((Jkm bs x0 k).1.map dsc)]) (fun k => k ≤ N) 0 (Nat.zero_le _) ?_ fun k hk => ?_
    ·show Bt _ _ _ _ _ (rB h i j s x0 ++ ([] ++ List.replicate 1 .dead))
     rw [← List.append_assoc]
     refine Bt.trans (Bt.wk ?_) (Bt.pad _ _ 1)
     rw [show apS deR (h.length + 0) ((Jkm bs x0 0).1.map dsc) = .ns from rfl]
     simp only [qe2, X6x, simprocAttr]
    ·by_cases gi : k < N
     ·have gi' : ((k : Int) < (N : Int)) = True := eq_true (by omega)
      have e1 : IntKind.i64.wrap ((k : Int) + 1) = ((k + 1 : Nat) : Int) := zdT (by unfold In64; omega)
      have hst : (Jkm bs x0 (k + 1)).1.map dsc = (Jkm bs x0 k).1.map dsc ++ [dsc (rdDe bs (Jkm bs x0 k).2).1] := by
       show (_ ++ [_]).map dsc = _
       rw [List.map_append]
       rfl
      have hst2 : (Jkm bs x0 (k + 1)).2 = (rdDe bs (Jkm bs x0 k).2).2 := rfl
      have lo : ((Jkm bs x0 k).1.map dsc).length = k := by rw [List.length_map, KWu]
      have r0 := zZ3 H (Zj1 n0 k)
      obtain ⟨b1, b2, b3, b4, b5⟩ := KoS (dsc (rdDe bs (Jkm bs x0 k).2).1)
      generalize (Jkm bs x0 k).1.map dsc = o at *
      by_cases hB : o = []
      ·have z3 : (1 * 64 ≤ 140737488355328 ∧ 1 ≤ maxLen) = True := eq_true ⟨by decide, by unfold maxLen; omega⟩
       simp only [hB, Y7j, qe2, qur, X6x, simprocAttr, CO.tmps, Opd.tmps, optT, Nat.reducePow, Nat.reduceDiv, Nat.reduceMod, Q3v, JFu, YRr, Kti, Qv7, f1, f4, r0, g2, gi', ZBr, b1, b2, b3, b5, e1, z3]
       refine ⟨k + 1, gi, by dsimp only; omega, ?_⟩
       simp only [hst, hst2, hB, List.nil_append, KsF, Ztp]
       exact JAf H hok hh [2] (by decide) (by simp only [XQy, FrSel, BlkSel, AV.ren, renL, AV.ok, okL, Option.some.injEq, exists_eq_left', List.length_cons, List.length_nil, Nat.reduceAdd, Nat.reduceLT, reduceCtorEq, implies_true, exists_eq', fi, fl]) (by simp only [XQy, FrSel, BlkSel, AV.ren, renL, AV.ok, okL, Option.some.injEq, exists_eq_left', List.length_cons, List.length_nil, Nat.reduceAdd, Nat.reduceLT, reduceCtorEq, implies_true, exists_eq', fi, fl, JLP])
      ·have hlB : o.length ≠ 0 := fun q => hB (List.eq_nil_of_length_eq_zero q)
       have gr : ∀ id, apS deR id o = rsl deR id o := fun id => JeD _ hlB
       have fa := fun (x : RSt) L k ys hb => XS3 (h := rB h i j s x) (p := h.length) XNE (r := deR) (sz := 35) rfl L k o 64 1 ys hlB hb (by decide) (by omega) (by unfold maxLen; omega)
       simp only [gr, qe2, qur, X6x, simprocAttr, CO.tmps, Opd.tmps, optT, Nat.reducePow, Nat.reduceDiv, Nat.reduceMod, Q3v, JFu, YRr, Kti, Qv7, f1, f4, r0, g2, gi', ZBr, b1, b2, b3, b5, e1, fa]
       refine ⟨k + 1, gi, by dsimp only; omega, ?_⟩
       simp only [hst, hst2, zAf, Qtn]
       exact JAf H hok hh [2] (by decide) (by simp only [XQy, FrSel, BlkSel, AV.ren, renL, AV.ok, okL, Option.some.injEq, exists_eq_left', List.length_cons, List.length_nil, Nat.reduceAdd, Nat.reduceLT, reduceCtorEq, implies_true, exists_eq', fi, fl]) (by simp only [XQy, FrSel, BlkSel, AV.ren, renL, AV.ok, okL, Option.some.injEq, exists_eq_left', List.length_cons, List.length_nil, Nat.reduceAdd, Nat.reduceLT, reduceCtorEq, implies_true, exists_eq', fi, fl, JLP])
     ·obtain rfl : k = N := by omega
      have gi' : ((k : Int) < (k : Int)) = False := eq_false (by omega)
      simp only [qe2, qur, X6x, simprocAttr, CO.tmps, Opd.tmps, optT, Nat.reducePow, Nat.reduceDiv, Nat.reduceMod, f1, gi']
      exact Bt.eq rfl rfl
   ·cases e
  ·cases e
 ·cases e
end Go.Proofs.Ytpoojfnmhnedpaa
end
section
namespace Go.Proofs.Ytpoojfnmhnedpaa
set_option maxRecDepth 100000
set_option maxHeartbeats 4000000
theorem Wk.tu {l' l : List AV} (h : WkL l' l) : Wk (.tu l') (.tu l) := fun ρ c hv => by
 cases hv with
 | tu _ cs hl hv =>
  have := WkL.vl h ⟨hl, hv⟩
  exact .tu _ cs this.1 this.2
theorem Wk.ag {l' l : List AV} (h : WkL l' l) : Wk (.ag l') (.ag l) := fun ρ c hv => by
 cases hv with
 | ag _ cs hl hv =>
  have := WkL.vl h ⟨hl, hv⟩
  exact .ag _ cs this.1 this.2
theorem WkL.refl : ∀ l : List AV, WkL l l
 | [] => trivial
 | a :: l => ⟨Wk.refl a, WkL.refl l⟩
theorem WkL.app : ∀ (c : List AV) {l' l : List AV}, WkL l' l → WkL (c ++ l') (c ++ l)
 | [], _, _, h => h
 | a :: c, _, _, h => ⟨Wk.refl a, WkL.app c h⟩
theorem K08 (f : Nat → Nat) : ∀ c l : List AV, (∀ a ∈ c, a.fl = true) → renL f (c ++ l) = c ++ renL f l
 | [], l, _ => rfl
 | a :: c, l, h => by
  rw [List.cons_append, List.cons_append, renL, K08 f c l fun b hb => h b (List.mem_cons_of_mem _ hb)]
  congr 1
  have := h a List.mem_cons_self
  cases a <;> first | rfl | (cases this; done)
theorem Zmo (q : Nat → Bool) : ∀ c : List AV, (∀ a ∈ c, a.fl = true) → okL q c = true
 | [], _ => rfl
 | a :: c, h => by
  rw [Z3W, Zmo q c fun b hb => h b (List.mem_cons_of_mem _ hb), Bool.and_true]
  have := h a List.mem_cons_self
  cases a <;> first | rfl | (cases this; done)
theorem XDQ (p a b : Nat) : selN p [a, b] (p + 0) = p + a ∧ selN p [a, b] (p + 1) = p + b := ⟨Qbt 0, Qbt 1⟩
theorem que {P : Program} {h : List AB} {i j : Nat} {s : AV} {bs : List UInt8} (H : RdH h i j s bs) (hok : s.ok (fun k => decide (k < h.length)) = true) (hh : HOk h) {x : RSt} {L : List AB} {a b : Nat} (ha : a < L.length) (hb : b < L.length) (hab : a ≠ b) {ls ss : List Dsc} (la : ls = [] ∨ L[a]? = some (resB deR true ls)) (lb : ss = [] ∨ L[b]? = some (resB deR true ss)) (C F : List AV) (hC : ∀ c ∈ C, c.fl = true) (hF : ∀ c ∈ F, c.fl = true) :
  Bt P h.length [.tu [.ag (C ++ [apS deR (h.length + a) ls, apS deR (h.length + b) ss]), .ag F]] (rB h i j s x ++ L) [.tu [.ag (C ++ [rsl deR h.length ls, rsl deR (h.length + 1) ss]), .ag F]] (rB h i j s x ++ [resB deR true ls, resB deR true ss]) := by
 refine Bt.trans (Bt.wk1 (Wk.tu (l' := [.ag (C ++ [rsl deR (h.length + a) ls, rsl deR (h.length + b) ss]), .ag F]) ⟨Wk.ag (WkL.app C ⟨Jiz _ _, Jiz _ _, trivial⟩), Wk.refl _, trivial⟩)) ?_
 have bw : ∀ (k : Nat) (m : List Dsc), k < L.length → (m = [] ∨ L[k]? = some (resB deR true m)) → ∃ B, L[k]? = some B ∧ BWk (fun i => decide (i < h.length + [a, b].length)) (selN h.length [a, b]) (resB deR true m) B := fun k m hk hm => by
  rcases hm with rfl | hm
  ·exact ⟨L[k], List.getElem?_eq_getElem hk, trivial⟩
  ·exact ⟨_, hm, of_eq_true (Ygp _ _ _ _)⟩
 obtain ⟨s0, s1⟩ := XDQ h.length a b
 refine JAf H hok hh [a, b] (by simp [hab]) ⟨bw a ls ha la, bw b ss hb lb, trivial⟩ ⟨.inr ⟨?_, ?_⟩, trivial⟩
 ·simp only [zEo, Z3W, YwG, q43, Zmo _ C hC, Zmo _ F hF, Kt4, Bool.true_and, Bool.and_true, Bool.and_eq_true]
  exact ⟨XPo _ _ _ (by simp), XPo _ _ _ (by simp)⟩
 ·have e : (AV.tu [.ag (C ++ [rsl deR h.length ls, rsl deR (h.length + 1) ss]), .ag F]).ren (selN h.length [a, b]) = .tu [.ag (C ++ [rsl deR (h.length + a) ls, rsl deR (h.length + b) ss]), .ag F] := by
   simp only [AV.ren, renL]
   rw [K08 _ C _ hC]
   have := K08 (selN h.length [a, b]) F [] hF
   rw [List.append_nil] at this
   simp only [this, renL, zsP, List.append_nil, s1]
   rw [show selN h.length [a, b] h.length = h.length + a from s0]
  rw [e]
  exact Wk.refl _
theorem Zc8 {fr : List AV} {h : List AB} {P : Program} {p n m : Nat} {sz sz' : Option Nat} {a : AV} {h' : List AB} : (∃ v, resV fr h [RC.cell n sz, RC.cell m sz'] = some v ∧ Bt P p [v] h [a] h') = FinO P p ((ldV h sz (pl fr n)).bind fun x => (ldV h sz' (pl fr m)).map fun y => .tu [x, y]) h a h' := by
 have e : resV fr h [RC.cell n sz, RC.cell m sz'] = (ldV h sz (pl fr n)).bind fun x => (ldV h sz' (pl fr m)).map fun y => .tu [x, y] := by
  simp only [resV, XVF, KZq, ZOH, Option.bind_some]
  cases ldV h sz (pl fr n) with
  | none => rfl
  | some x =>
   cases ldV h sz' (pl fr m) <;> rfl
 rw [e]
 rfl
theorem Kzw (k : Int) (t : List UInt8) (d : Dsc) : ∀ c ∈ (.i .i64 k :: .s t :: deR.f d : List AV), c.fl = true := fun c hc => by
 rcases List.mem_cons.1 hc with rfl | hc
 ·rfl
 ·rcases List.mem_cons.1 hc with rfl | hc
  ·rfl
  ·exact YgR d c hc
theorem QvV (e a : Int) : ∀ c ∈ [AV.i .i64 e, .i .i64 a], c.fl = true := fun c hc => by
 rcases List.mem_cons.1 hc with rfl | hc
 ·rfl
 ·rw [List.mem_singleton.1 hc]; rfl
noncomputable def Q0x : List AV → List AB → Option (AV × List AB)
 | [.ag [.p i 0, .i .i64 sz]], h => (rdM h i).bind fun y => if y.2.2.1.length ≤ 1000000 ∧ 0 ≤ sz ∧ sz ≤ 1000000 then
   let M := Z52 y.2.2.1 y.2.2.2 sz
   some (.tu [.ag (.i .i64 M.1.1.kind :: .s M.1.1.title :: (deR.f (dsc M.1.1.config) ++ [rsl deR h.length (M.1.1.layers.map dsc), rsl deR (h.length + 1) (M.1.1.subs.map dsc)])), .ag [.i .i64 M.1.2.1, .i .i64 M.1.2.2]], rB h i y.1 y.2.1 M.2 ++ [resB deR true (M.1.1.layers.map dsc), resB deR true (M.1.1.subs.map dsc)]) else none
 | _, _ => none
theorem Qwh : deR.f (dsc deZ) = [.i .i64 0, .i .u8 0, .i .u8 0, .i .u8 0, .i .u8 0, .i .u8 0, .i .u8 0, .i .u8 0, .i .u8 0, .i .u8 0, .i .u8 0, .i .u8 0, .i .u8 0, .i .u8 0, .i .u8 0, .i .u8 0, .i .u8 0, .i .u8 0, .i .u8 0, .i .u8 0, .i .u8 0, .i .u8 0, .i .u8 0, .i .u8 0, .i .u8 0, .i .u8 0, .i .u8 0, .i .u8 0, .i .u8 0, .i .u8 0, .i .u8 0, .i .u8 0, .i .u8 0, .i .i64 0, .s []] := rfl
theorem ov35 {M : List AV} (h : M.length = 35) : (∀ zs : List AV, over zs 0 M = M ++ zs.drop 35) ∧ (∀ a b v : AV, over (M ++ [a, b]) 35 [v] = M ++ [v, b]) ∧ (∀ a b v : AV, over (M ++ [a, b]) 36 [v] = M ++ [a, v]) ∧ (∀ a b : AV, (M ++ [a, b]).take 37 = M ++ [a, b]) ∧ (∀ a b : AV, (M ++ [a, b]).length = 37) ∧ (∀ (a b : AV), over (M ++ [a, b]) 0 (M ++ [a, b]) = M ++ [a, b]) := by
 have l2 : ∀ a b : AV, (M ++ [a, b]).length = 37 := fun a b => by simp [h]
 refine ⟨fun zs => by simp [over, h], fun a b v => ?_, fun a b v => ?_, fun a b => List.take_of_length_le (by rw [l2]; exact Nat.le_refl _), l2, fun a b => qkR _ _ rfl⟩
 ·unfold over
  rw [List.take_left' h, List.append_assoc]
  congr 1
  rw [show 35 + [v].length = M.length + 1 by rw [h]; rfl, ← List.drop_drop, List.drop_left' rfl]
  rfl
 ·have e : M ++ [a, b] = (M ++ [a]) ++ [b] := by simp
  unfold over
  rw [e, List.take_left' (by simp [h])]
  rw [List.drop_eq_nil_of_le (by simp [h])]
  simp
theorem Jbk {h : List AB} {i j : Nat} {s : AV} {bs : List UInt8} {x : RSt} (H : RdH h i j s bs) (L : List AB) (c anc n : Nat) (past : List Pt) (hn : n = h.length + L.length) : getS XQp (YiL (seen (h.length + c) anc past n) [] 0 (rB h i j s x ++ L)) s = some bs :=
 (Rd.mask ((H.rB x).app L) fun k hk => by
  have := H.lt k hk
  exact ZaJ (by omega) (by omega)).get
theorem QXq {bs : List UInt8} {x : RSt} (h : x.pos ≤ bs.length) : 0 ≤ Ynt bs x ∧ Ynt bs x ≤ bs.length := by
 unfold Ynt
 split <;> omega
theorem ziH (x : Dsc) : (deR.f x).all (wrOk false) = true := by
 have h := YgR x
 rw [List.all_eq_true]
 intro a ha
 have := h a ha
 cases a <;> first | rfl | (cases this; done)
theorem JfR : Spec Try.prog 50 Q0x := by
 intro args h v h' e
 unfold Q0x at e
 split at e
 ·rename_i i sz
  obtain ⟨j, s, bs, n, er, a, hi, hj, H, hn, e⟩ := ZQG e
  split at e
  ·rename_i hlen
   dsimp only at e
   cases e
   obtain ⟨hlen, hz0, hz1⟩ := hlen
   refine FnAt.c (FnAt.run (by kernel_rfl) (T := ⟨[⟨66, Z8o, fun _ => []⟩, ⟨67, JWq, fun _ => []⟩, ⟨68, ZBr, fun _ => []⟩, ⟨69, XAW, fun _ => []⟩, ⟨70, z3J, fun _ => []⟩], []⟩) ⟨⟨YKN, JRb, zLa, Kvg, Z5B, trivial⟩, trivial⟩ Try.func50 sw50 fun ho hh => ?_)
   have hok := ZqH hh hi
   have e0 : h ++ [] = rB h i j s ⟨n, er, a⟩ ++ [] := by rw [YgC hi hj]
   rw [e0]
   dsimp only at hlen ⊢
   have f1 := QbU H hok
   have f4 := fun x => qWR (x := x) H
   have g2 : (bs.length ≤ 1000000) = True := eq_true hlen
   obtain ⟨x0, hx0⟩ : ∃ x0 : RSt, x0 = ⟨n, er, a⟩ := ⟨_, rfl⟩
   rw [← hx0]
   have n0 : x0.pos ≤ bs.length := by rw [hx0]; exact hn
   have r0 := zZ3 H n0
   obtain ⟨a1, x1, e1⟩ : ∃ a1 x1, zdk bs x0 = (a1, x1) := ⟨_, _, rfl⟩
   have n1 : x1.pos ≤ bs.length := by have := YA5 n0; rw [e1] at this; exact this
   have r1 := zZ3 H n1
   obtain ⟨a2, x2, e2⟩ : ∃ a2 x2, zdk bs x1 = (a2, x2) := ⟨_, _, rfl⟩
   have n2 : x2.pos ≤ bs.length := by have := YA5 n1; rw [e2] at this; exact this
   have r2 := zZ3 H n2
   by_cases g1 : a1 = 77
   case neg =>
    have g1' := eq_false g1
    have hr : Z52 bs x0 sz = ((manZ, 20, 0), x1) := by
     unfold Z52
     simp only [e1]
     rw [if_neg g1]
    rw [hr]
    unfold w50
    simp only [Qfy, Q7I, qe2, qur, X6x, simprocAttr, CO.tmps, Opd.tmps, optT, Nat.reducePow, Nat.reduceDiv, Nat.reduceMod, Q3v, JFu, YRr, Kti, f1, f4, r0, e1, g1', Z8o, ne_eq, not_true_eq_false, not_false_eq_true, decide_true, decide_false, Zc8]
    exact que H hok hh (a := 0) (b := 1) (by simp) (by simp) (by decide) (ls := []) (ss := []) (.inl rfl) (.inl rfl) (.i .i64 0 :: .s [] :: deR.f (dsc deZ)) [.i .i64 20, .i .i64 0] (Kzw _ _ _) (QvV _ _)
   subst g1
   by_cases g3 : a2 = 3
   ·subst g3
    obtain ⟨t, x3, e3⟩ : ∃ t x3, YVk bs x2 4096 = (t, x3) := ⟨_, _, rfl⟩
    have n3 : x3.pos ≤ bs.length := by have := qBe 4096 n2; rw [e3] at this; exact this
    have r3 := zZ3 H n3
    obtain ⟨c, x4, e4⟩ : ∃ c x4, rdDe bs x3 = (c, x4) := ⟨_, _, rfl⟩
    have n4 : x4.pos ≤ bs.length := by have := YVG n3; rw [e4] at this; exact this
    have r4 := zZ3 H n4
    obtain ⟨N, x5, e5⟩ := KAo bs x4
    have n5 : x5.pos ≤ bs.length := by have := YA5 n4; rw [e5] at this; exact this
    have r5 := zZ3 H n5
    have f5 := fun L c anc n' past => JqA (x := x4) H L c anc n' past
    have b6 := ziH (dsc c)
    have n4' := eq_true n4
    have mk := fun (x : RSt) c anc n' past w L => Ysp (h := rB h i j s x) (p := h.length) XNE c anc n' past [h.length + w] L
    have mg := fun (x : RSt) w G l => JHl (h := rB h i j s x) [h.length + w] G l
    have hfz : ∀ x : RSt, ((rB h i j s x).map AB.freeze).length = h.length := fun x => by rw [List.length_map, XNE]
    have f6 := fun L c anc n' past => Jbk (x := x4) H L c anc n' past
    have q4 : ((0 : Int) ≤ (x4.pos : Int) ∧ (x4.pos : Int) ≤ (bs.length : Int)) = True := eq_true ⟨by omega, by omega⟩
    have q5 : Ynt bs ⟨x4.pos, x4.err, x4.ea⟩ = Ynt bs x4 := rfl
    have q6 := QXq n4
    have w1 : IntKind.i64.wrap (sz - Ynt bs x4) = sz - Ynt bs x4 := zdT (by unfold In64; omega)
    obtain ⟨b1, b2, b3, b4, b5⟩ := KoS (dsc c)
    have ov := ov35 b1
    rw [qyK e1 e2 e3 e4 e5]
    unfold X3r
    unfold w50
    by_cases g4 : 16 < N
    ·have g4' : ((16 : Int) < (N : Int)) = True := eq_true (by omega)
     rw [if_pos g4]
     simp only [Qfy, Q7I, qe2, qur, X6x, simprocAttr, CO.tmps, Opd.tmps, optT, Nat.reducePow, Nat.reduceDiv, Nat.reduceMod, Q3v, JFu, YRr, Kti, Zap, Jm3, f1, f4, r0, r1, r2, r3, r4, e1, e2, e3, e4, e5, f5, f6, q4, q5, w1, g4', g2, b1, b2, b3, b4, b6, ov, n4', q43, mk, mg, hfz, Z8o, JWq, ZBr, XAW, zac, ZSR, XRQ H hok hh, List.all_append, ne_eq, not_true_eq_false, not_false_eq_true, decide_true, decide_false, Zc8]
     exact que H hok hh (a := 0) (b := 1) (by simp) (by simp) (by decide) (ls := []) (ss := []) (.inl rfl) (.inl rfl) (.i .i64 3 :: .s t :: deR.f (dsc c)) [.i .i64 4, .i .i64 (sz - Ynt bs x4)] (Kzw _ _ _) (QvV _ _)
    ·have g4' : ((16 : Int) < (N : Int)) = False := eq_false (by omega)
     have g5' : ((N : Int) ≤ 1000) = True := eq_true (by omega)
     have g6' : ((0 : Int) ≤ (N : Int)) = True := eq_true (by omega)
     rw [if_neg g4]
     simp only [Qfy, Q7I, qe2, qur, X6x, simprocAttr, CO.tmps, Opd.tmps, optT, Nat.reducePow, Nat.reduceDiv, Nat.reduceMod, Q3v, JFu, YRr, Kti, Zap, Jm3, f1, f4, r0, r1, r2, r3, r4, r5, e1, e2, e3, e4, e5, f5, f6, q4, q5, w1, g4', g5', g6', g2, b1, b2, b3, b4, b6, ov, n4', q43, mk, mg, hfz, Z8o, JWq, ZBr, XAW, z3J, zac, ZSR, XRQ H hok hh, List.all_append, ne_eq, not_true_eq_false, not_false_eq_true, decide_true, decide_false, Zc8]
     exact que H hok hh (a := 3) (b := 0) (by simp) (by simp) (by decide) (ls := (Jkm bs x5 N).1.map dsc) (ss := []) (.inr rfl) (.inl rfl) (.i .i64 3 :: .s t :: deR.f (dsc c)) [.i .i64 0, .i .i64 0] (Kzw _ _ _) (QvV _ _)
   have g3' := eq_false g3
   by_cases g7 : a2 = 4
   ·subst g7
    obtain ⟨t, x3, e3⟩ : ∃ t x3, YVk bs x2 4096 = (t, x3) := ⟨_, _, rfl⟩
    have n3 : x3.pos ≤ bs.length := by have := qBe 4096 n2; rw [e3] at this; exact this
    have r3 := zZ3 H n3
    obtain ⟨N, x5, e5⟩ := KAo bs x3
    have n5 : x5.pos ≤ bs.length := by have := YA5 n3; rw [e5] at this; exact this
    have r5 := zZ3 H n5
    have f5 := fun L c anc n' past => JqA (x := x3) H L c anc n' past
    have n3' := eq_true n3
    have mk := fun (x : RSt) c anc n' past w L => Ysp (h := rB h i j s x) (p := h.length) XNE c anc n' past [h.length + w] L
    have mg := fun (x : RSt) w G l => JHl (h := rB h i j s x) [h.length + w] G l
    have hfz : ∀ x : RSt, ((rB h i j s x).map AB.freeze).length = h.length := fun x => by rw [List.length_map, XNE]
    have f6 := fun L c anc n' past => Jbk (x := x3) H L c anc n' past
    have q4 : ((0 : Int) ≤ (x3.pos : Int) ∧ (x3.pos : Int) ≤ (bs.length : Int)) = True := eq_true ⟨by omega, by omega⟩
    have q5 : Ynt bs ⟨x3.pos, x3.err, x3.ea⟩ = Ynt bs x3 := rfl
    have q6 := QXq n3
    have w1 : IntKind.i64.wrap (sz - Ynt bs x3) = sz - Ynt bs x3 := zdT (by unfold In64; omega)
    rw [zHx e1 e2 e3 e5]
    unfold YVn
    unfold w50
    by_cases g4 : 8 < N
    ·have g4' : ((8 : Int) < (N : Int)) = True := eq_true (by omega)
     rw [if_pos g4]
     simp only [Qfy, Q7I, qe2, qur, X6x, simprocAttr, CO.tmps, Opd.tmps, optT, Nat.reducePow, Nat.reduceDiv, Nat.reduceMod, Q3v, JFu, YRr, Kti, Zap, Jm3, f1, f4, r0, r1, r2, r3, e1, e2, e3, e5, f5, f6, q4, q5, w1, g3', g4', g2, n3', q43, mk, mg, hfz, Z8o, JWq, ZBr, XAW, zac, ZSR, XRQ H hok hh, List.all_append, ne_eq, not_true_eq_false, not_false_eq_true, decide_true, decide_false, Zc8]
     exact que H hok hh (a := 0) (b := 1) (by simp) (by simp) (by decide) (ls := []) (ss := []) (.inl rfl) (.inl rfl) (.i .i64 4 :: .s t :: deR.f (dsc deZ)) [.i .i64 4, .i .i64 (sz - Ynt bs x3)] (Kzw _ _ _) (QvV _ _)
    ·have g4' : ((8 : Int) < (N : Int)) = False := eq_false (by omega)
     have g5' : ((N : Int) ≤ 1000) = True := eq_true (by omega)
     have g6' : ((0 : Int) ≤ (N : Int)) = True := eq_true (by omega)
     rw [if_neg g4]
     simp only [Qfy, Q7I, qe2, qur, X6x, simprocAttr, CO.tmps, Opd.tmps, optT, Nat.reducePow, Nat.reduceDiv, Nat.reduceMod, Q3v, JFu, YRr, Kti, Zap, Jm3, f1, f4, r0, r1, r2, r3, r5, e1, e2, e3, e5, f5, f6, q4, q5, w1, g3', g4', g5', g6', g2, n3', q43, mk, mg, hfz, Z8o, JWq, ZBr, XAW, z3J, zac, ZSR, XRQ H hok hh, List.all_append, ne_eq, not_true_eq_false, not_false_eq_true, decide_true, decide_false, Zc8]
     exact que H hok hh (a := 0) (b := 3) (by simp) (by simp) (by decide) (ls := []) (ss := (Jkm bs x5 N).1.map dsc) (.inl rfl) (.inr rfl) (.i .i64 4 :: .s t :: deR.f (dsc deZ)) [.i .i64 0, .i .i64 0] (Kzw _ _ _) (QvV _ _)
   ·have g7' := eq_false g7
    have hr : Z52 bs x0 sz = ((⟨a2, [], deZ, [], []⟩, 20, 0), x2) := by
     unfold Z52
     simp only [e1, e2]
     rw [if_pos trivial, if_neg g3, if_neg g7]
    rw [hr]
    unfold w50
    simp only [Qfy, Q7I, qe2, qur, X6x, simprocAttr, CO.tmps, Opd.tmps, optT, Nat.reducePow, Nat.reduceDiv, Nat.reduceMod, Q3v, JFu, YRr, Kti, Zap, Jm3, f1, f4, r0, r1, e1, e2, g3', g7', Z8o, ne_eq, not_true_eq_false, not_false_eq_true, decide_true, decide_false, Zc8]
    exact que H hok hh (a := 0) (b := 1) (by simp) (by simp) (by decide) (ls := []) (ss := []) (.inl rfl) (.inl rfl) (.i .i64 a2 :: .s [] :: deR.f (dsc deZ)) [.i .i64 20, .i .i64 0] (Kzw _ _ _) (QvV _ _)
  ·cases e
 ·cases e
end Go.Proofs.Ytpoojfnmhnedpaa
end
section
namespace Go.Proofs.Ytpoojfnmhnedpaa
set_option maxRecDepth 100000
set_option maxHeartbeats 4000000
theorem XS1 {P : Program} {h : List AB} (hh : HOk h) {L : List AB} {a b : Nat} (ha : a < L.length) (hb : b < L.length) (hab : a ≠ b) {ls ss : List Dsc} (la : ls = [] ∨ L[a]? = some (resB deR true ls)) (lb : ss = [] ∨ L[b]? = some (resB deR true ss)) {l' s' : AV} (wl : Wk (rsl deR (h.length + a) ls) l') (ws : Wk (rsl deR (h.length + b) ss) s') (C F : List AV) (hC : ∀ c ∈ C, c.fl = true) (hF : ∀ c ∈ F, c.fl = true) :
  Bt P h.length [.tu [.ag (C ++ [l', s']), .ag F]] (h ++ L) [.tu [.ag (C ++ [rsl deR h.length ls, rsl deR (h.length + 1) ss]), .ag F]] (h ++ [resB deR true ls, resB deR true ss]) := by
 refine Bt.trans (Bt.wk1 (Wk.tu (l' := [.ag (C ++ [rsl deR (h.length + a) ls, rsl deR (h.length + b) ss]), .ag F]) ⟨Wk.ag (WkL.app C ⟨wl, ws, trivial⟩), Wk.refl _, trivial⟩)) ?_
 have bw : ∀ (k : Nat) (m : List Dsc), k < L.length → (m = [] ∨ L[k]? = some (resB deR true m)) → ∃ B, L[k]? = some B ∧ BWk (fun i => decide (i < h.length + [a, b].length)) (selN h.length [a, b]) (resB deR true m) B := fun k m hk hm => by
  rcases hm with rfl | hm
  ·exact ⟨L[k], List.getElem?_eq_getElem hk, trivial⟩
  ·exact ⟨_, hm, of_eq_true (Ygp _ _ _ _)⟩
 obtain ⟨s0, s1⟩ := XDQ h.length a b
 refine Bt.sel [a, b] hh (by simp [hab]) ⟨bw a ls ha la, bw b ss hb lb, trivial⟩ ⟨.inr ⟨?_, ?_⟩, trivial⟩
 ·simp only [zEo, Z3W, YwG, q43, Zmo _ C hC, Zmo _ F hF, Kt4, Bool.true_and, Bool.and_true, Bool.and_eq_true]
  exact ⟨XPo _ _ _ (by simp), XPo _ _ _ (by simp)⟩
 ·have e : (AV.tu [.ag (C ++ [rsl deR h.length ls, rsl deR (h.length + 1) ss]), .ag F]).ren (selN h.length [a, b]) = .tu [.ag (C ++ [rsl deR (h.length + a) ls, rsl deR (h.length + b) ss]), .ag F] := by
   simp only [AV.ren, renL]
   rw [K08 _ C _ hC]
   have := K08 (selN h.length [a, b]) F [] hF
   rw [List.append_nil] at this
   simp only [this, renL, zsP, List.append_nil, s1]
   rw [show selN h.length [a, b] h.length = h.length + a from s0]
  rw [e]
  exact Wk.refl _
noncomputable def ZtL : List AV → List AB → Option (AV × List AB)
 | [.ag [.p i 0, .i .i64 _]], h => (rdr h i).bind fun x => (getS XQp h x.2.1).bind fun bs => if 0 ≤ x.2.2.1 ∧ x.2.2.1 ≤ bs.length then
   some (.tu [.ag [.i .i64 (ZkG bs ⟨x.2.2.1.toNat, x.2.2.2.1, x.2.2.2.2⟩).1, .i .i64 (ZkG bs ⟨x.2.2.1.toNat, x.2.2.2.1, x.2.2.2.2⟩).2], .b (qaQ bs ⟨x.2.2.1.toNat, x.2.2.2.1, x.2.2.2.2⟩)], h) else none
 | _, _ => none
theorem Qld : Spec Try.prog 51 ZtL := by
 intro args h v h' e
 unfold ZtL at e
 split at e
 ·rename_i i sz
  obtain ⟨j, s, p, er, a, ⟨m, hi⟩, hb, hc, e⟩ := q9v e
  dsimp only at e
  obtain ⟨bs, hs, e⟩ := Kra e
  split at e
  ·rename_i hp
   cases e
   obtain ⟨n, rfl⟩ := Int.eq_ofNat_of_zero_le hp.1
   refine FnAt.c (FnAt.frz0 fun hz => ?_)
   replace hb := ZTo hb
   replace hc := ZTo hc
   replace hs := hs.frz
   replace hi : (h.map AB.freeze)[i]? = some (.blk false false [.p j 0, s, .i .i64 (n : Int)]) := by rw [List.getElem?_map, hi]; rfl
   generalize h.map AB.freeze = h at *
   refine (FnAt.run (by kernel_rfl) (T := ⟨[⟨71, zLd, fun _ => []⟩, ⟨69, XAW, fun _ => []⟩], []⟩) ⟨⟨K4B, Kvg, trivial⟩, trivial⟩ Try.func51 sw51 fun ho hh => ?_)
   have f1 := zW9 hb
   have f2 := zW9 hc
   have f3 := hs.fx (ZqH hh hi) (sz := 1) rfl
   have f4 : ∀ L, rdr (h ++ L) i = some (j, s, (n : Int), er, a) := fun L => by
    unfold rdr
    rw [List.getElem?_append_left (List.getElem?_eq_some_iff.1 hi).1, hi]
    simp only [f2.1]
   have q1 := eq_true hp
   have hn : ((n : Int)).toNat = n := Int.toNat_natCast n
   have hn' := eq_true (show n ≤ bs.length by omega)
   unfold w51
   by_cases g : (ZkG bs ⟨n, er, a⟩).1 = 0
   ·have g' := eq_true g
    have hr : qaQ bs ⟨n, er, a⟩ = false := by unfold qaQ; rw [decide_eq_false (fun q => q g)]; rfl
    simp only [hn, hr, Qfy, Q7I, qe2, qur, X6x, simprocAttr, CO.tmps, Opd.tmps, optT, Nat.reducePow, Nat.reduceDiv, Nat.reduceMod, f1, f2, f3, f4, q1, hn', g', zLd, XAW, zDt hh, qwE hz, ZqV hz, zhe hz, zBI, List.getElem?_cons_zero, List.getElem?_cons_succ, ne_eq, not_true_eq_false, decide_true, decide_false]
    exact Bt.drop _ hh rfl rfl
   ·have g' := eq_false g
    by_cases g2 : Ynt bs ⟨n, er, a⟩ = 0
    ·have g2' := eq_true g2
     have hr : qaQ bs ⟨n, er, a⟩ = true := by unfold qaQ; rw [decide_eq_true g, decide_eq_true g2]; rfl
     simp only [hn, hr, Qfy, Q7I, qe2, qur, X6x, simprocAttr, CO.tmps, Opd.tmps, optT, Nat.reducePow, Nat.reduceDiv, Nat.reduceMod, f1, f2, f3, f4, q1, hn', g', g2', zLd, XAW, zDt hh, qwE hz, ZqV hz, zhe hz, zBI, List.getElem?_cons_zero, List.getElem?_cons_succ, ne_eq, not_false_eq_true, decide_true, decide_false]
     exact Bt.drop _ hh rfl rfl
    ·have g2' := eq_false g2
     have hr : qaQ bs ⟨n, er, a⟩ = false := by unfold qaQ; rw [decide_eq_false g2, Bool.and_false]
     simp only [hn, hr, Qfy, Q7I, qe2, qur, X6x, simprocAttr, CO.tmps, Opd.tmps, optT, Nat.reducePow, Nat.reduceDiv, Nat.reduceMod, f1, f2, f3, f4, q1, hn', g', g2', zLd, XAW, zDt hh, qwE hz, ZqV hz, zhe hz, zBI, List.getElem?_cons_zero, List.getElem?_cons_succ, ne_eq, not_false_eq_true, decide_true, decide_false]
     exact Bt.drop _ hh rfl rfl
  ·cases e
 ·cases e
theorem YF5 {bs : List UInt8} {x : RSt} {sz : Int} (h : x.pos ≤ bs.length) : (Z52 bs x sz).2.pos ≤ bs.length := by
 have h1 := YA5 h
 have h2 := YA5 h1
 have h3 := qBe 4096 h2
 have h4 := YVG h3
 have h5 := YA5 h4
 have h6 := YA5 h3
 unfold Z52
 dsimp only
 split
 ·split
  ·split
   ·exact h5
   ·exact Zj1 h5 _
  ·split
   ·split
    ·exact h6
    ·exact Zj1 h6 _
   ·exact h2
 ·exact h1
theorem eqcP (a b : Int) : K1E [.i, .i] [.i .i64 a, .i .i64 b] [.i .i64 0, .i .i64 0] = some (decide ((a, b) = (0, 0))) := by
 simp only [K1E, JCq, if_true, Option.bind_some, Option.map_some, Option.some.injEq, Bool.and_true, Prod.mk.injEq]
 rw [Bool.eq_iff_iff]
 simp
noncomputable def Xrc : List AV → List AB → Option (AV × List AB)
 | [a], h => (getS XQp h a).bind fun bs => if bs.length ≤ 1000000 then
   some (.tu [.ag (.i .i64 (mdec bs).1.kind :: .s (mdec bs).1.title :: (deR.f (dsc (mdec bs).1.config) ++ [rsl deR h.length ((mdec bs).1.layers.map dsc), rsl deR (h.length + 1) ((mdec bs).1.subs.map dsc)])), .ag [.i .i64 (mdec bs).2.1, .i .i64 (mdec bs).2.2]], h ++ [resB deR true ((mdec bs).1.layers.map dsc), resB deR true ((mdec bs).1.subs.map dsc)]) else none
 | _, _ => none
section
variable {h : List AB} {bs : List UInt8}
theorem Q2b (hl : bs.length ≤ maxLen) (s : AV) (hs : s = rsl XQp (h.length + 4) bs) :
  (∀ B0 B1 m (x : RSt) R, x.pos ≤ bs.length → rdM (h ++ (B0 :: B1 :: .blk false true [.p (h.length + 3) 0, s, .i .i64 (x.pos : Nat)] :: .blk true true [.i .i64 x.err, .i .i64 x.ea] :: resB XQp m bs :: R)) (h.length + 2) = some (h.length + 3, s, bs, x)) ∧
  (∀ B0 B1 m (x : RSt) R, rdr (h ++ (B0 :: B1 :: .blk false m [.p (h.length + 3) 0, s, .i .i64 (x.pos : Nat)] :: .blk true true [.i .i64 x.err, .i .i64 x.ea] :: R)) (h.length + 2) = some (h.length + 3, s, ((x.pos : Nat) : Int), x.err, x.ea)) ∧
  (∀ B0 B1 B2 B3 (x : RSt) R, rB (h ++ (B0 :: B1 :: B2 :: B3 :: R)) (h.length + 2) (h.length + 3) s x = h ++ (B0 :: B1 :: .blk false true [.p (h.length + 3) 0, s, .i .i64 (x.pos : Nat)] :: .blk true true [.i .i64 x.err, .i .i64 x.ea] :: R)) := by
 subst hs
 refine ⟨fun B0 B1 m x R hx => ?_, fun B0 B1 m x R => ?_, fun B0 B1 B2 B3 x R => ?_⟩
 ·exact Q38 (L := B0 :: B1 :: .blk false true [.p (h.length + 3) 0, rsl XQp (h.length + 4) bs, .i .i64 (x.pos : Nat)] :: .blk true true [.i .i64 x.err, .i .i64 x.ea] :: resB XQp m bs :: R) (a := 2) (b := 3) (c := 4) (m := m) rfl rfl rfl hl hx (by decide)
 ·unfold rdr qhl
  rw [zSD]
  simp only [List.getElem?_cons_succ, List.getElem?_cons_zero, zSD]
 ·unfold rB
  rw [List.set_append_right _ _ (by omega), List.set_append_right _ _ (by omega), Nat.add_sub_cancel_left, Nat.add_sub_cancel_left]
  rfl
end
theorem Qw6 : Spec Try.prog 20 Xrc := by
 intro args h v h' e
 unfold Xrc at e
 split at e
 ·rename_i a
  obtain ⟨bs, ha, e⟩ := Kra e
  split at e
  ·rename_i hl
   cases e
   refine FnAt.c (FnAt.frz fun hz => ?_)
   rw [show h.length = (h.map AB.freeze).length from (List.length_map _).symm]
   replace ha := ha.frz
   generalize h.map AB.freeze = h at *
   refine FnAt.run (by kernel_rfl) (T := ⟨[⟨49, Qor, fun _ => []⟩, ⟨50, Q0x, fun _ => []⟩, ⟨51, ZtL, fun _ => []⟩], []⟩) ⟨⟨X2t, JfR, Qld, trivial⟩, trivial⟩ Try.func20 sw20 fun ho hh => ?_
   simp only [Z3W, Bool.and_eq_true] at ho
   have fa := ha.fx ho.1 (sz := 1) rfl
   have l1 := eq_true hl
   unfold w20
   by_cases g1 : 4096 < bs.length
   ·have g1' : ((4096 : Int) < (bs.length : Int)) = True := eq_true (by omega)
    have hr : mdec bs = (manZ, 4, 4096) := by unfold mdec; rw [if_pos g1]
    rw [hr]
    simp only [Qfy, Q7I, qe2, qur, X6x, simprocAttr, CO.tmps, Opd.tmps, optT, Nat.reducePow, Nat.reduceDiv, Nat.reduceMod, fa, g1', Zc8, zDt hh, qwE hz, ZqV hz, zhe hz]
    exact XS1 hh (a := 0) (b := 1) (by simp) (by simp) (by decide) (ls := []) (ss := []) (.inl rfl) (.inl rfl) (Wk.nil _ _) (Wk.nil _ _) (.i .i64 0 :: .s [] :: deR.f (dsc deZ)) [.i .i64 4, .i .i64 4096] (Kzw _ _ _) (QvV _ _)
   ·have g1' : ((4096 : Int) < (bs.length : Int)) = False := eq_false (by omega)
    obtain ⟨x, hx⟩ : ∃ x, x = Z52 bs ⟨0, 0, 0⟩ bs.length := ⟨_, rfl⟩
    have hp : x.2.pos ≤ bs.length := by rw [hx]; exact YF5 (Nat.zero_le _)
    obtain ⟨s, hs⟩ : ∃ s, s = rsl XQp (h.length + 4) bs := ⟨_, rfl⟩
    obtain ⟨o1, o2, o3⟩ := Q2b (h := h) (bs := bs) (by unfold maxLen; omega) s hs
    have o1' : ∀ B0 B1 m R, rdM (h ++ (B0 :: B1 :: .blk false true [.p (h.length + 3) 0, s, .i .i64 0] :: .blk true true [.i .i64 0, .i .i64 0] :: resB XQp m bs :: R)) (h.length + 2) = some (h.length + 3, s, bs, ⟨0, 0, 0⟩) := fun B0 B1 m R => o1 B0 B1 m ⟨0, 0, 0⟩ R (Nat.zero_le _)
    have q1 : ((0 : Int) ≤ (bs.length : Int) ∧ (bs.length : Int) ≤ 1000000) = True := eq_true ⟨by omega, by omega⟩
    have hr : mdec bs = if decF bs x = (0, 0) then (x.1.1, 0, 0) else (manZ, decF bs x) := by unfold mdec; rw [if_neg g1, ← hx]
    rw [hr]
    have np1 : AV.np.one = true := rfl
    have q2 : ((bs.length : Int) ≤ 1000000) = True := eq_true (by omega)
    obtain ⟨b1, b2, b3, b4, b5⟩ := KoS (dsc x.1.1.config)
    have b6 := ziH (dsc x.1.1.config)
    obtain ⟨v1, v2, v3, v4, v5, v6⟩ := ov35 b1
    have v7 : ∀ zs : List AV, zs.length = 37 → ∀ a b, over zs 0 (deR.f (dsc x.1.1.config) ++ [a, b]) = deR.f (dsc x.1.1.config) ++ [a, b] := fun zs hz a b => qkR _ _ (by rw [v5, hz])
    have hgs : ∀ B0 B1 B2 B3 m R, getS XQp (h ++ (B0 :: B1 :: B2 :: B3 :: resB XQp m bs :: R)) s = some bs := fun B0 B1 B2 B3 m R => by
     rw [hs]
     exact Z9G (r := XQp) (B0 :: B1 :: B2 :: B3 :: resB XQp m bs :: R) 4 bs ⟨m, rfl⟩ (by unfold maxLen; omega)
    have q3 : ((0 : Int) ≤ (x.2.pos : Int) ∧ (x.2.pos : Int) ≤ (bs.length : Int)) = True := eq_true ⟨by omega, by omega⟩
    have q3' := eq_true hp
    have q4 : ZkG bs ⟨x.2.pos, x.2.err, x.2.ea⟩ = ZkG bs x.2 := rfl
    have q5 : qaQ bs ⟨x.2.pos, x.2.err, x.2.ea⟩ = qaQ bs x.2 := rfl
    have key : ∀ F : Int × Int, decF bs x = F → ((F = (0, 0) ∧ decF bs x = (0, 0)) ∨ ¬ F = (0, 0)) := fun F hF => by
     by_cases q : F = (0, 0)
     ·exact .inl ⟨q, by rw [hF, q]⟩
     ·exact .inr q
    have hso : s.ok (fun i => decide (i < h.length + 11)) = true := by rw [hs]; exact XPo _ _ _ (by simp)
    by_cases g2 : qaQ bs x.2 = true
    ·have hd : decF bs x = ZkG bs x.2 := by unfold decF; rw [if_pos g2]
     rw [hd]
     by_cases g4 : ZkG bs x.2 = (0, 0)
     ·have g4' : (((ZkG bs x.2).1, (ZkG bs x.2).2) = ((0 : Int), (0 : Int))) = True := eq_true g4
      rw [if_pos g4]
      simp only [Qfy, Q7I, qe2, qur, X6x, simprocAttr, CO.tmps, Opd.tmps, optT, Nat.reducePow, Nat.reduceDiv, Nat.reduceMod, fa, l1, g1', q1, q2, q3, q3', q4, q5, np1, b1, b3, b4, b6, v1, v4, v5, v6, v7, hgs, hso, q43, List.all_append, eqcP, ← hs, ← hx, o1', o1, o2, o3, Qor, Q0x, ZtL, g2, g4', Zc8, zDt hh, qwE hz, ZqV hz, zhe hz, not_true_eq_false, not_false_eq_true, decide_true, decide_false]
      rw [g4]
      exact XS1 hh (a := 6) (b := 7) (by simp) (by simp) (by decide) (ls := x.1.1.layers.map dsc) (ss := x.1.1.subs.map dsc) (.inr rfl) (.inr rfl) (Wk.refl _) (Wk.refl _) (.i .i64 x.1.1.kind :: .s x.1.1.title :: deR.f (dsc x.1.1.config)) [.i .i64 0, .i .i64 0] (Kzw _ _ _) (QvV _ _)
     ·have g4' : (((ZkG bs x.2).1, (ZkG bs x.2).2) = ((0 : Int), (0 : Int))) = False := eq_false g4
      rw [if_neg g4]
      simp only [Qfy, Q7I, qe2, qur, X6x, simprocAttr, CO.tmps, Opd.tmps, optT, Nat.reducePow, Nat.reduceDiv, Nat.reduceMod, fa, l1, g1', q1, q2, q3, q3', q4, q5, np1, b1, b3, b4, b6, v1, v4, v5, v6, v7, hgs, hso, q43, List.all_append, eqcP, ← hs, ← hx, o1', o1, o2, o3, Qor, Q0x, ZtL, g2, g4', Zc8, zDt hh, qwE hz, ZqV hz, zhe hz, not_true_eq_false, not_false_eq_true, decide_true, decide_false]
      exact XS1 hh (a := 0) (b := 1) (by simp) (by simp) (by decide) (ls := []) (ss := []) (.inl rfl) (.inl rfl) (Wk.nil _ _) (Wk.nil _ _) (.i .i64 0 :: .s [] :: deR.f (dsc deZ)) [.i .i64 (ZkG bs x.2).1, .i .i64 (ZkG bs x.2).2] (Kzw _ _ _) (QvV _ _)
    ·have g2' : qaQ bs x.2 = false := by simpa using g2
     by_cases g3 : x.1.2 = (0, 0)
     ·have hd : decF bs x = ZkG bs x.2 := by unfold decF; rw [if_neg g2, if_pos g3]
      have g3' : ((x.1.2.1, x.1.2.2) = ((0 : Int), (0 : Int))) = True := eq_true g3
      rw [hd]
      by_cases g4 : ZkG bs x.2 = (0, 0)
      ·have g4' : (((ZkG bs x.2).1, (ZkG bs x.2).2) = ((0 : Int), (0 : Int))) = True := eq_true g4
       rw [if_pos g4]
       simp only [Qfy, Q7I, qe2, qur, X6x, simprocAttr, CO.tmps, Opd.tmps, optT, Nat.reducePow, Nat.reduceDiv, Nat.reduceMod, fa, l1, g1', q1, q2, q3, q3', q4, q5, np1, b1, b3, b4, b6, v1, v4, v5, v6, v7, hgs, hso, q43, List.all_append, eqcP, ← hs, ← hx, o1', o1, o2, o3, Qor, Q0x, ZtL, g2', g3', g4', Zc8, zDt hh, qwE hz, ZqV hz, zhe hz, not_true_eq_false, not_false_eq_true, decide_true, decide_false]
       rw [g4]
       exact XS1 hh (a := 6) (b := 7) (by simp) (by simp) (by decide) (ls := x.1.1.layers.map dsc) (ss := x.1.1.subs.map dsc) (.inr rfl) (.inr rfl) (Wk.refl _) (Wk.refl _) (.i .i64 x.1.1.kind :: .s x.1.1.title :: deR.f (dsc x.1.1.config)) [.i .i64 0, .i .i64 0] (Kzw _ _ _) (QvV _ _)
      ·have g4' : (((ZkG bs x.2).1, (ZkG bs x.2).2) = ((0 : Int), (0 : Int))) = False := eq_false g4
       rw [if_neg g4]
       simp only [Qfy, Q7I, qe2, qur, X6x, simprocAttr, CO.tmps, Opd.tmps, optT, Nat.reducePow, Nat.reduceDiv, Nat.reduceMod, fa, l1, g1', q1, q2, q3, q3', q4, q5, np1, b1, b3, b4, b6, v1, v4, v5, v6, v7, hgs, hso, q43, List.all_append, eqcP, ← hs, ← hx, o1', o1, o2, o3, Qor, Q0x, ZtL, g2', g3', g4', Zc8, zDt hh, qwE hz, ZqV hz, zhe hz, not_true_eq_false, not_false_eq_true, decide_true, decide_false]
       exact XS1 hh (a := 0) (b := 1) (by simp) (by simp) (by decide) (ls := []) (ss := []) (.inl rfl) (.inl rfl) (Wk.nil _ _) (Wk.nil _ _) (.i .i64 0 :: .s [] :: deR.f (dsc deZ)) [.i .i64 (ZkG bs x.2).1, .i .i64 (ZkG bs x.2).2] (Kzw _ _ _) (QvV _ _)
     ·have hd : decF bs x = x.1.2 := by unfold decF; rw [if_neg g2, if_neg g3]
      have g3' : ((x.1.2.1, x.1.2.2) = ((0 : Int), (0 : Int))) = False := eq_false g3
      rw [hd, if_neg g3]
      simp only [Qfy, Q7I, qe2, qur, X6x, simprocAttr, CO.tmps, Opd.tmps, optT, Nat.reducePow, Nat.reduceDiv, Nat.reduceMod, fa, l1, g1', q1, q2, q3, q3', q4, q5, np1, b1, b3, b4, b6, v1, v4, v5, v6, v7, hgs, hso, q43, List.all_append, eqcP, ← hs, ← hx, o1', o1, o2, o3, Qor, Q0x, ZtL, g2', g3', Zc8, zDt hh, qwE hz, ZqV hz, zhe hz, not_true_eq_false, not_false_eq_true, decide_true, decide_false]
      exact XS1 hh (a := 0) (b := 1) (by simp) (by simp) (by decide) (ls := []) (ss := []) (.inl rfl) (.inl rfl) (Wk.nil _ _) (Wk.nil _ _) (.i .i64 0 :: .s [] :: deR.f (dsc deZ)) [.i .i64 x.1.2.1, .i .i64 x.1.2.2] (Kzw _ _ _) (QvV _ _)
  ·cases e
 ·cases e
end Go.Proofs.Ytpoojfnmhnedpaa
end
