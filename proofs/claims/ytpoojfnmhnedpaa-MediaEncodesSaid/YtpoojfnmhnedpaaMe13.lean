/- Part 13 of what the laws' proofs rest on. No condition. -/
import Derived.Test.YtpoojfnmhnedpaaMe12
set_option linter.all false
section
namespace Go.Proofs.Ytpoojfnmhnedpaa
set_option maxRecDepth 100000
set_option maxHeartbeats 4000000
theorem QpM {h : List AB} {i : Nat} {fl : Bool} {cells : List AV} (hi : h[i]? = some (.blk fl true cells)) {o : Nat} {v : AV} (ho : o + 1 ≤ cells.length) (hw : wrOk fl v = true) (h1 : v.one = true) (x : List AB) : stV (h ++ x) none (.p i o) v = some (h.set i (.blk fl true (over cells o [v])) ++ x) := by
 have hlt := (List.getElem?_eq_some_iff.1 hi).1
 simp only [stV, if_true, stB, h1]
 rw [List.getElem?_append_left hlt, hi]
 dsimp only
 rw [if_pos ⟨ho, by simp [hw]⟩, List.set_append_left _ _ hlt]
theorem Rd.setB {α : Type} {r : Row α} {h : List AB} {s : AV} {l : List α} (e : Rd r h s l) {i : Nat} (hi : ∀ k ∈ idOf s, k ≠ i) (B : AB) : Rd r (h.set i B) s l := by
 refine ⟨?_, e.2⟩
 have h1 := e.1
 cases s <;> first | exact h1 | skip
 rename_i id off len cap k
 have hne : id ≠ i := hi id (by simp [idOf])
 have hr : qhl (h.set i B) id = qhl h id := by unfold qhl; rw [List.getElem?_set_ne (Ne.symm hne)]
 simp only [rdS, hr] at h1 ⊢
 exact h1
theorem YTL {h : List AB} {i : Nat} {B : AB} (e : h[i]? = some B) : h.set i B = h := by
 apply List.ext_getElem?
 intro k
 rw [List.getElem?_set]
 split
 ·rename_i hij
  subst hij
  first | rw [if_pos (List.getElem?_eq_some_iff.1 e).1, e] | rw [e]
 ·rfl
theorem Rd.cutS {α : Type} {r : Row α} {h : List AB} {s : AV} {l : List α} (e : Rd r h s l) (hc : s.capOk = true) {a b : Nat} (hab : a ≤ b) (hb : b ≤ l.length) {sz : Nat} (hz : r.sz = sz) : ∃ s', slL sz s (some (.i .i64 a)) (some (.i .i64 b)) none = some s' ∧ Rd r h s' ((l.drop a).take (b - a)) ∧ (∀ q, s.ok q = true → s'.ok q = true) ∧ ∀ k ∈ idOf s', k ∈ idOf s := by
 subst hz
 have hs := e.isSl
 have hl := e.len
 have hm := e.2
 have hlen : ((l.drop a).take (b - a)).length = b - a := by rw [List.length_take, List.length_drop]; omega
 cases s <;> first | (cases hs; done) | skip
 ·rename_i id off len cap k
  simp only [AV.capOk, decide_eq_true_eq] at hc
  simp only [lenV, Option.some.injEq] at hl
  obtain rfl : len = l.length := by omega
  have b1 : bnd l.length cap (some (.i .i64 (b : Int))) = some b := by
   simp only [bnd]
   rw [if_pos ⟨by omega, by omega⟩, Int.toNat_natCast]
  have b2 : bnd 0 b (some (.i .i64 (a : Int))) = some a := by
   simp only [bnd]
   rw [if_pos ⟨by omega, by omega⟩, Int.toNat_natCast]
  simp only [slL, b1, b2, Option.bind_some, Option.map_some]
  have okq : ∀ q, (AV.sl id off l.length cap k).ok q = true → l.length ≠ 0 → q id = true := fun q hq h0 => by
   simp only [AV.ok, Bool.or_eq_true, Bool.and_eq_true, Nat.beq_eq] at hq
   rcases hq with hq | hq
   ·exact absurd hq.1.1 h0
   ·exact hq
  have okr : ∀ (q : Nat → Bool) o n c k', q id = true → (AV.sl id o n c k').ok q = true := fun q o n c k' hq => Zig q _ _ _ _ _ hq
  by_cases h0 : b - a = 0
  ·by_cases ha : a = 0
   ·rw [if_pos ha]
    by_cases hL : l.length = 0
    ·rw [show b = l.length by omega]
     refine ⟨_, rfl, ?_, fun q hq => hq, fun z hz => hz⟩
     rw [hL]
     exact Rd.mk0 (by rw [List.length_take, List.length_drop]; omega)
    ·refine ⟨_, rfl, ?_, fun q hq => okr q _ _ _ _ (okq q hq hL), fun z hz => hz⟩
     rw [show b = 0 by omega]
     exact Rd.mk0 (by simp)
   ·rw [if_neg ha]
    by_cases hac : a < cap
    ·rw [if_pos hac]
     refine ⟨_, rfl, ?_, fun q hq => okr q _ _ _ _ (okq q hq (by omega)), fun z hz => hz⟩
     rw [h0]
     exact Rd.mk0 (by simp)
    ·rw [if_neg hac]
     by_cases hk : k = none
     ·rw [if_pos hk]
      exact ⟨_, rfl, Rd.mk0 (by omega), fun q hq => okr q _ _ _ _ (okq q hq (by omega)), fun z hz => hz⟩
     ·rw [if_neg hk]
      refine ⟨_, rfl, ?_, fun q hq => rfl, fun z hz => by cases hz⟩
      rw [List.eq_nil_of_length_eq_zero (hlen.trans h0)]
      exact ⟨rfl, Nat.zero_le _⟩
  ·have hl0 : l.length ≠ 0 := by omega
   obtain ⟨_, xs, g1, g2, g3⟩ := e.slc hl0
   have hpos := r.pos
   have key : ∀ o, o = off + a * r.sz → (xs.drop o).take (((l.drop a).take (b - a)).length * r.sz) = r.cells ((l.drop a).take (b - a)) ∧ o + ((l.drop a).take (b - a)).length * r.sz ≤ xs.length := fun o ho => by
    subst ho
    have hle : a * r.sz + (b - a) * r.sz ≤ l.length * r.sz := by
     rw [← Nat.add_mul]
     exact Nat.mul_le_mul_right _ (by omega)
    rw [hlen]
    refine ⟨?_, by omega⟩
    refine List.ext_getElem? fun n => ?_
    rw [List.getElem?_take]
    by_cases hn : n < (b - a) * r.sz
    ·rw [if_pos hn, List.getElem?_drop, Nat.add_assoc]
     have e1 : r.cells l = (xs.drop off).take (l.length * r.sz) := g3.symm
     have e2 : (r.cells l)[a * r.sz + n]? = xs[off + (a * r.sz + n)]? := by
      rw [e1, List.getElem?_take, if_pos (by omega), List.getElem?_drop]
     rw [← e2]
     have hd : n / r.sz < b - a := (Nat.div_lt_iff_lt_mul hpos).2 hn
     have hmod := Nat.mod_lt n hpos
     have hn' : n = (n / r.sz) * r.sz + n % r.sz := by rw [Nat.mul_comm]; exact (Nat.div_add_mod n r.sz).symm
     have q1 := r.cells_get l (a + n / r.sz) (n % r.sz) (by omega) hmod
     have q2 := r.cells_get ((l.drop a).take (b - a)) (n / r.sz) (n % r.sz) (by omega) hmod
     rw [show a * r.sz + n = (a + n / r.sz) * r.sz + n % r.sz by rw [Nat.add_mul]; omega, q1]
     conv => rhs; rw [hn']
     rw [q2]
     congr 2
     rw [List.getD_eq_getElem?_getD, List.getD_eq_getElem?_getD, List.getElem?_take, if_pos hd, List.getElem?_drop]
    ·rw [if_neg hn, List.getElem?_eq_none (by rw [r.cells_len, hlen]; omega)]
   by_cases ha : a = 0
   ·rw [if_pos ha]
    obtain ⟨k1, k2⟩ := key off (by rw [ha]; omega)
    exact ⟨_, rfl, Rd.mk_sl g1 (by omega) k2 k1 (by omega), fun q hq => okr q _ _ _ _ (okq q hq (by omega)), fun z hz => hz⟩
   ·rw [if_neg ha, if_pos (by omega)]
    obtain ⟨k1, k2⟩ := key _ rfl
    exact ⟨_, rfl, Rd.mk_sl g1 (by omega) k2 k1 (by omega), fun q hq => okr q _ _ _ _ (okq q hq (by omega)), fun z hz => hz⟩
 ·simp only [lenV, Option.some.injEq] at hl
  have h0 : l.length = 0 := by omega
  obtain rfl : a = 0 := by omega
  obtain rfl : b = 0 := by omega
  exact ⟨.se, by simp [slL, bnd], by rw [List.eq_nil_of_length_eq_zero h0]; exact ⟨rfl, Nat.zero_le _⟩, fun q hq => rfl, fun z hz => by cases hz⟩
 ·simp only [lenV, Option.some.injEq] at hl
  have h0 : l.length = 0 := by omega
  obtain rfl : a = 0 := by omega
  obtain rfl : b = 0 := by omega
  exact ⟨.ns, by simp [slL, bnd], by rw [List.eq_nil_of_length_eq_zero h0]; exact ⟨rfl, Nat.zero_le _⟩, fun q hq => rfl, fun z hz => by cases hz⟩
def rB (h : List AB) (i j : Nat) (s : AV) (x : RSt) : List AB := (h.set i (.blk false true [.p j 0, s, .i .i64 (x.pos : Nat)])).set j (.blk true true [.i .i64 x.err, .i .i64 x.ea])
structure RdH (h : List AB) (i j : Nat) (s : AV) (bs : List UInt8) : Prop where
 hi : i < h.length
 hj : j < h.length
 ne : i ≠ j
 rd : Rd XQp h s bs
 q : ∀ k ∈ idOf s, k ≠ i ∧ k ≠ j
 cap : s.capOk = true
 lt : ∀ k ∈ idOf s, k < h.length
noncomputable def rdM (h : List AB) (i : Nat) : Option (Nat × AV × List UInt8 × RSt) := match h[i]? with
 | some (.blk false true [.p j 0, s, .i .i64 p]) => match h[j]? with
  | some (.blk true true [.i .i64 e, .i .i64 a]) => (getS XQp h s).bind fun bs => if 0 ≤ p ∧ p ≤ bs.length ∧ (idOf s).all (fun k => decide (k ≠ i ∧ k ≠ j ∧ k < h.length)) = true ∧ s.capOk = true then some (j, s, bs, ⟨p.toNat, e, a⟩) else none
  | _ => none
 | _ => none
section
variable {h : List AB} {i j : Nat} {s : AV} {bs : List UInt8} {x : RSt}
theorem XNE : (rB h i j s x).length = h.length := by unfold rB; rw [List.length_set, List.length_set]
theorem rB_i (H : RdH h i j s bs) : (rB h i j s x)[i]? = some (.blk false true [.p j 0, s, .i .i64 (x.pos : Nat)]) := by
 unfold rB
 rw [List.getElem?_set_ne (Ne.symm H.ne), List.getElem?_set_self H.hi]
theorem rB_j (H : RdH h i j s bs) : (rB h i j s x)[j]? = some (.blk true true [.i .i64 x.err, .i .i64 x.ea]) := by
 unfold rB
 rw [List.getElem?_set_self (by rw [List.length_set]; exact H.hj)]
theorem QQi {k : Nat} (hi : k ≠ i) (hj : k ≠ j) : (rB h i j s x)[k]? = h[k]? := by
 unfold rB
 rw [List.getElem?_set_ne (Ne.symm hj), List.getElem?_set_ne (Ne.symm hi)]
theorem Z6H (H : RdH h i j s bs) (y : RSt) : rB (rB h i j s x) i j s y = rB h i j s y := by
 unfold rB
 rw [List.set_comm _ _ (Ne.symm H.ne), List.set_set, List.set_set]
theorem YIh (H : RdH h i j s bs) (L : List AB) : rB (h ++ L) i j s x = rB h i j s x ++ L := by
 unfold rB
 rw [List.set_append_left _ _ H.hi, List.set_append_left _ _ (by rw [List.length_set]; exact H.hj)]
theorem qWR (H : RdH h i j s bs) (y : RSt) (L : List AB) : rB (rB h i j s x ++ L) i j s y = rB h i j s y ++ L := by
 have H' : RdH (rB h i j s x) i j s bs := ⟨by rw [XNE]; exact H.hi, by rw [XNE]; exact H.hj, H.ne, (H.rd.setB (fun k hk => (H.q k hk).1) _).setB (fun k hk => (H.q k hk).2) _, H.q, H.cap, fun k hk => by rw [XNE]; exact H.lt k hk⟩
 rw [YIh H', Z6H H]
theorem YgC {n : Nat} {e a : Int} (hi : h[i]? = some (.blk false true [.p j 0, s, .i .i64 (n : Nat)])) (hj : h[j]? = some (.blk true true [.i .i64 e, .i .i64 a])) : rB h i j s ⟨n, e, a⟩ = h := by
 unfold rB
 dsimp only
 rw [YTL hi, YTL hj]
theorem RdH.rB (H : RdH h i j s bs) (x : RSt) : Rd XQp (rB h i j s x) s bs := (H.rd.setB (fun k hk => (H.q k hk).1) _).setB (fun k hk => (H.q k hk).2) _
theorem qfE (H : RdH h i j s bs) (ho : s.ok (fun k => decide (k < h.length)) = true) (hh : HOk h) (x : RSt) : HOk (rB h i j s x) := by
 intro k B hB
 rw [XNE]
 by_cases h1 : k = i
 ·subst h1
  rw [rB_i H] at hB
  cases hB
  simp only [AB.ok, Z3W, Kt4, ok_p, ok_i, ho, decide_eq_true_eq, Bool.and_true, Bool.true_and]
  exact H.hj
 ·by_cases h2 : k = j
  ·subst h2
   rw [rB_j H] at hB
   cases hB
   rfl
  ·rw [QQi h1 h2] at hB
   exact hh k B hB
theorem ZQG {β : Type} {f : Nat × AV × List UInt8 × RSt → Option β} {b : β} (q : (rdM h i).bind f = some b) : ∃ j s bs n e a, h[i]? = some (.blk false true [.p j 0, s, .i .i64 (n : Nat)]) ∧ h[j]? = some (.blk true true [.i .i64 e, .i .i64 a]) ∧ RdH h i j s bs ∧ n ≤ bs.length ∧ f (j, s, bs, ⟨n, e, a⟩) = some b := by
 obtain ⟨y, h1, h2⟩ := Option.bind_eq_some_iff.1 q
 unfold rdM at h1
 split at h1
 ·rename_i j s p hi
  split at h1
  ·rename_i e a hj
   obtain ⟨bs, hs, h1⟩ := Kra h1
   split at h1
   ·rename_i hc
    cases h1
    obtain ⟨h0, hl, hq, hcap⟩ := hc
    obtain ⟨n, rfl⟩ := Int.eq_ofNat_of_zero_le h0
    have hne : i ≠ j := by
     rintro rfl
     rw [hi] at hj
     cases hj
    rw [Int.toNat_natCast] at h2
    exact ⟨j, s, bs, n, e, a, hi, hj, ⟨(List.getElem?_eq_some_iff.1 hi).1, (List.getElem?_eq_some_iff.1 hj).1, hne, hs, fun k hk => ⟨(of_decide_eq_true (List.all_eq_true.1 hq k hk)).1, (of_decide_eq_true (List.all_eq_true.1 hq k hk)).2.1⟩, hcap, fun k hk => (of_decide_eq_true (List.all_eq_true.1 hq k hk)).2.2⟩, by omega, h2⟩
   ·cases h1
  ·cases h1
 ·cases h1
theorem zZ3 (H : RdH h i j s bs) (hx : x.pos ≤ bs.length) (L : List AB) : rdM (rB h i j s x ++ L) i = some (j, s, bs, x) := by
 unfold rdM
 simp only [List.getElem?_append_left (show i < (rB h i j s x).length by rw [XNE]; exact H.hi), rB_i H, List.getElem?_append_left (show j < (rB h i j s x).length by rw [XNE]; exact H.hj), rB_j H]
 rw [((H.rB x).app L).get, Option.bind_some, if_pos ⟨by omega, by omega, List.all_eq_true.2 fun k hk => decide_eq_true ⟨(H.q k hk).1, (H.q k hk).2, by have := H.lt k hk; rw [List.length_append, XNE]; omega⟩, H.cap⟩, Int.toNat_natCast]
theorem zTq (H : RdH h i j s bs) (L : List AB) : rdr (rB h i j s x ++ L) i = some (j, s, ((x.pos : Nat) : Int), x.err, x.ea) := by
 unfold rdr qhl
 simp only [List.getElem?_append_left (show i < (rB h i j s x).length by rw [XNE]; exact H.hi), rB_i H, List.getElem?_append_left (show j < (rB h i j s x).length by rw [XNE]; exact H.hj), rB_j H]
theorem Q38 {L : List AB} {a b c : Nat} {m : Bool} {n : Nat} {e e' : Int} (ha : L[a]? = some (.blk false true [.p (h.length + b) 0, rsl XQp (h.length + c) bs, .i .i64 (n : Nat)])) (hb : L[b]? = some (.blk true true [.i .i64 e, .i .i64 e'])) (hc : L[c]? = some (resB XQp m bs)) (hl : bs.length ≤ maxLen) (hx : n ≤ bs.length) (h1 : c ≠ a ∧ c ≠ b) : rdM (h ++ L) (h.length + a) = some (h.length + b, rsl XQp (h.length + c) bs, bs, ⟨n, e, e'⟩) := by
 unfold rdM
 simp only [zSD, ha, hb]
 rw [(zpN (by rw [zSD]; exact hc) hl).get, Option.bind_some, if_pos ⟨by omega, by omega, by rw [JJ1]; simp only [List.all_cons, List.all_nil, Bool.and_true, decide_eq_true_eq, List.length_append]; have := (List.getElem?_eq_some_iff.1 hc).1; omega, Jr2 _ _⟩, Int.toNat_natCast]
theorem ZlC {S ws : List Nat} {H : List AB} {k : Nat} (hk : k ∈ S) (hn : k ∉ ws) : (YiL S ws 0 H)[k]? = (H[k]?).map AB.freeze := by
 rw [KFl, Nat.zero_add]
 cases H[k]? with
 | none => rfl
 | some B => simp only [Option.map_some, if_neg hn, if_pos hk]
theorem zKK {S ws : List Nat} {H : List AB} {k : Nat} (hk : k ∈ ws) : (YiL S ws 0 H)[k]? = H[k]? := by
 rw [KFl, Nat.zero_add]
 cases H[k]? with
 | none => rfl
 | some B => simp only [Option.map_some, if_pos hk]
theorem QSn {S ws : List Nat} {H : List AB} {k : Nat} (hk : k ∈ S) : qhl (YiL S ws 0 H) k = qhl H k := by
 unfold qhl
 by_cases hw : k ∈ ws
 ·rw [zKK hw]
 ·rw [ZlC hk hw]
  cases H[k]? with
  | none => rfl
  | some B => cases B <;> rfl
theorem ZaJ {len0 anc n k : Nat} {past : List Pt} (h1 : k < len0) (h2 : k < n) : k ∈ seen len0 anc past n := List.mem_filter.2 ⟨List.mem_range.2 h2, qcC h1⟩
theorem Rd.mask {α : Type} {r : Row α} {H : List AB} {s : AV} {l : List α} (e : Rd r H s l) {S ws : List Nat} (hk : ∀ k ∈ idOf s, k ∈ S) : Rd r (YiL S ws 0 H) s l := by
 refine ⟨?_, e.2⟩
 have h1 := e.1
 cases s <;> first | exact h1 | skip
 rename_i id off len cap k
 have hr : qhl (YiL S ws 0 H) id = qhl H id := QSn (hk id (by simp [idOf]))
 simp only [rdS, hr] at h1 ⊢
 exact h1
theorem qwX (S : List Nat) (H : List AB) : KJX [] (YiL S [] 0 H) 0 H = H := by
 refine List.ext_getElem? fun k => ?_
 rw [KN2, Nat.zero_add]
 split
 ·rw [if_neg (by simp)]
 ·rename_i hk
  rw [KFl, List.getElem?_eq_none (by omega)]
  rfl
variable {c : Ctx} {k : List IT} {fr : List AV} {len0 n anc : Nat} {past : List Pt} {d : Option Nat} {ops : List DOp}
theorem zac (S : List Nat) (vs : List AV) (v : AV) (H : List AB) : W c (.dmk [] vs (some (v, YiL S [] 0 H)) len0 n anc past d ops :: k) fr H = (okL (fun i => decide (i < H.length)) vs = true ∧ HOk H ∧ indA len0 anc past [] past = true ∧ v.ok (qOk len0 H.length H.length anc past) = true ∧
      W c (.drw len0 (n + 1) (⟨n, H.length, H.length, seen len0 anc (Yc4 past) H.length, []⟩ :: past) ops :: k) (put fr d v) H) := by
  rw [← Q5r, KAR, qwX, ZSR]
  have e1 : (YiL S [] 0 H).drop H.length = [] := List.drop_eq_nil_of_le (by rw [ZSR]; exact Nat.le_refl _)
  rw [e1]
  simp only [List.all_nil, Nat.le_refl, true_and]
theorem XJE (H : RdH h i j s bs) (S : List Nat) (L : List AB) (e a : Int) : KJX [j] (YiL S [j] 0 (rB h i j s ⟨x.pos, e, a⟩ ++ L)) 0 (rB h i j s x ++ L) = rB h i j s ⟨x.pos, e, a⟩ ++ L := by
 refine List.ext_getElem? fun k => ?_
 have e1 : ∀ y : RSt, k ≠ j → y.pos = x.pos → (rB h i j s y ++ L)[k]? = (rB h i j s x ++ L)[k]? := fun y hk hy => by
  rw [List.getElem?_append, List.getElem?_append, XNE, XNE]
  by_cases hi : k = i
  ·subst hi
   rw [rB_i H, rB_i H, hy]
  ·rw [QQi hi hk, QQi hi hk]
 have hlen : (rB h i j s ⟨x.pos, e, a⟩ ++ L).length = (rB h i j s x ++ L).length := by rw [List.length_append, List.length_append, XNE, XNE]
 rw [KN2, Nat.zero_add]
 by_cases hk : k < (rB h i j s x ++ L).length
 ·rw [if_pos hk]
  by_cases hj : k = j
  ·subst hj
   rw [if_pos (List.mem_singleton.2 rfl), zKK (List.mem_singleton.2 rfl), List.getElem?_eq_getElem (by omega)]
   rfl
  ·rw [if_neg (by simpa using hj)]
   exact (e1 ⟨x.pos, e, a⟩ hj rfl).symm
 ·rw [if_neg hk, KFl, List.getElem?_eq_none (by omega)]
  rfl
theorem XRQ (H : RdH h i j s bs) (ho : s.ok (fun k => decide (k < h.length)) = true) (hh : HOk h) :
  (∀ S (y : RSt) L, (YiL S [j] 0 (rB h i j s y ++ L)).length = h.length + L.length) ∧ (∀ S (y : RSt) L q, ((YiL S [j] 0 (rB h i j s y ++ L)).getD j .dead).ok q = true) ∧
  (∀ S (y : RSt) L n, n = L.length → (YiL S [j] 0 (rB h i j s y ++ L)).drop (h.length + n) = []) ∧
  (∀ S (n : Nat) (e0 a0 e a : Int) L, KJX [j] (YiL S [j] 0 (rB h i j s ⟨n, e, a⟩ ++ L)) 0 (rB h i j s ⟨n, e0, a0⟩ ++ L) = rB h i j s ⟨n, e, a⟩ ++ L) ∧
  (∀ (x : RSt) L, HOk (rB h i j s x ++ L) = ((L.all fun B => B.ok (fun i => decide (i < h.length + L.length))) = true)) := by
 have l1 : ∀ (S : List Nat) (y : RSt) (L : List AB), (YiL S [j] 0 (rB h i j s y ++ L)).length = h.length + L.length := fun S y L => by rw [ZSR, List.length_append, XNE]
 refine ⟨l1, fun S y L q => ?_, fun S y L n hn => List.drop_eq_nil_of_le (by rw [l1]; omega), fun S n e0 a0 e a L => XJE (x := ⟨n, e0, a0⟩) H S L e a, fun x L => ?_⟩
 ·rw [List.getD_eq_getElem?_getD, zKK (List.mem_singleton.2 rfl), List.getElem?_append_left (by rw [XNE]; exact H.hj), rB_j H]
  rfl
 ·have := zDt (qfE H ho hh x) L
  rw [this, XNE]
theorem K3z (H : RdH h i j s bs) (S : List Nat) (L : List AB) (e a : Int) (hx : x.err = 0) : qkr [.p j 0, .i .i64 e, .i .i64 a] (YiL S [j] 0 (rB h i j s x ++ L)) = some (.tu [], YiL S [j] 0 (rB h i j s ⟨x.pos, e, a⟩ ++ L)) := by
 have hj : (YiL S [j] 0 (rB h i j s x ++ L))[j]? = some (.blk true true [.i .i64 x.err, .i .i64 x.ea]) := by
  rw [zKK (List.mem_singleton.2 rfl), List.getElem?_append_left (by rw [XNE]; exact H.hj), rB_j H]
 unfold qkr
 simp only [hj]
 rw [if_pos hx]
 congr 2
 refine List.ext_getElem? fun k => ?_
 have hlt : j < (YiL S [j] 0 (rB h i j s x ++ L)).length := by rw [ZSR, List.length_append, XNE]; have := H.hj; omega
 by_cases hk : k = j
 ·subst hk
  rw [List.getElem?_set_self hlt, zKK (List.mem_singleton.2 rfl), List.getElem?_append_left (by rw [XNE]; exact H.hj), rB_j H]
 ·rw [List.getElem?_set_ne (Ne.symm hk), KFl, KFl]
  have e1 : (rB h i j s x ++ L)[k]? = (rB h i j s ⟨x.pos, e, a⟩ ++ L)[k]? := by
   rw [List.getElem?_append, List.getElem?_append, XNE, XNE]
   by_cases hi : k = i
   ·subst hi
    rw [rB_i H, rB_i H]
   ·rw [QQi hi hk, QQi hi hk]
  rw [e1]
theorem XzS (H : RdH h i j s bs) (L : List AB) (e a : Int) : qkr [.p j 0, .i .i64 e, .i .i64 a] (rB h i j s x ++ L) = some (.tu [], rB h i j s (x.fail e a) ++ L) := by
 have hj : (rB h i j s x ++ L)[j]? = some (.blk true true [.i .i64 x.err, .i .i64 x.ea]) := by
  rw [List.getElem?_append_left (by rw [XNE]; exact H.hj), rB_j H]
 unfold qkr
 simp only [hj]
 unfold RSt.fail
 split
 ·congr 2
  rw [List.set_append_left _ _ (by rw [XNE]; exact H.hj)]
  unfold rB
  rw [List.set_set]
 ·rfl
theorem QbU (H : RdH h i j s bs) (ho : s.ok (fun k => decide (k < h.length)) = true) :
  (∀ (x : RSt) L, qhl (rB h i j s x ++ L) i = some [.p j 0, s, .i .i64 (x.pos : Nat)]) ∧ (∀ (x : RSt) L, qhl (rB h i j s x ++ L) j = some [.i .i64 x.err, .i .i64 x.ea]) ∧
  (∀ (x : RSt) L o, ldV (rB h i j s x ++ L) none (.p i o) = [AV.p j 0, s, .i .i64 (x.pos : Nat)][o]?) ∧ (∀ (x : RSt) L o, ldV (rB h i j s x ++ L) none (.p j o) = [AV.i .i64 x.err, .i .i64 x.ea][o]?) ∧
  (∀ (x : RSt) L, ldV (rB h i j s x ++ L) (some 2) (.p j 0) = some (.ag [.i .i64 x.err, .i .i64 x.ea])) ∧
  (∀ (x : RSt) L (n : Nat), stV (rB h i j s x ++ L) none (.p i 2) (.i .i64 (n : Nat)) = some (rB h i j s ⟨n, x.err, x.ea⟩ ++ L)) ∧
  (∀ c lo hi anc past, qOk (h.length + c) lo hi anc past i = true) ∧ (∀ c lo hi anc past, qOk (h.length + c) lo hi anc past j = true) ∧ (∀ c, (i < h.length + c) = True) ∧ (∀ c, (j < h.length + c) = True) ∧ (i < h.length) = True ∧ (j < h.length) = True ∧
  (∀ x, (rB h i j s x).length = h.length) ∧ (i = j) = False ∧ (j = i) = False ∧ (∀ c, (h.length + c ≤ j) = False) ∧ (h.length ≤ j) = False := by
 have r1 : ∀ (x : RSt) L, qhl (rB h i j s x ++ L) i = some [.p j 0, s, .i .i64 (x.pos : Nat)] := fun x L => by
  unfold qhl
  rw [List.getElem?_append_left (by rw [XNE]; exact H.hi), rB_i H]
 have r2 : ∀ (x : RSt) L, qhl (rB h i j s x ++ L) j = some [.i .i64 x.err, .i .i64 x.ea] := fun x L => by
  unfold qhl
  rw [List.getElem?_append_left (by rw [XNE]; exact H.hj), rB_j H]
 have hi := H.hi
 have hj := H.hj
 refine ⟨r1, r2, fun x L o => ?_, fun x L o => ?_, fun x L => ?_, fun x L n => ?_, fun c lo hi anc past => qcC (by omega), fun c lo hi anc past => qcC (by omega), fun c => eq_true (by omega), fun c => eq_true (by omega), eq_true hi, eq_true hj, fun x => XNE, eq_false H.ne, eq_false (Ne.symm H.ne), fun c => eq_false (by omega), eq_false (by omega)⟩
 ·simp only [ldV, r1, Option.bind_some]
 ·simp only [ldV, r2, Option.bind_some]
 ·simp only [ldV, r2, Option.bind_some]; rfl
 ·rw [QpM (rB_i H) (o := 2) (Nat.le_refl 3) rfl rfl]
  congr 2
  unfold rB
  rw [List.set_comm _ _ (Ne.symm H.ne), List.set_set]
  rfl
theorem QCL (H : RdH h i j s bs) {s' : AV} {l : List UInt8} (e : Rd XQp h s' l) (hq : ∀ k ∈ idOf s', k ∈ idOf s) : (∀ (x : RSt) L n, n < l.length → ldV (rB h i j s x ++ L) none (elP 1 s' n 0) = some (u8A (l.getD n 0))) ∧ (∀ (x : RSt) L, getS XQp (rB h i j s x ++ L) s' = some l) ∧ (∀ (x : RSt) L, srcV (rB h i j s x ++ L) 1 s' = some (l.length, XQp.cells l)) := by
 have e' : ∀ x, Rd XQp (Go.Proofs.Ytpoojfnmhnedpaa.rB h i j s x) s' l := fun x => (e.setB (fun k hk => (H.q k (hq k hk)).1) _).setB (fun k hk => (H.q k (hq k hk)).2) _
 exact ⟨fun x L n hn => ((e' x).app L).ld n 0 hn Nat.one_pos, fun x L => ((e' x).app L).get, fun x L => (e' x).src rfl L⟩
theorem zox (H : RdH h i j s bs) (ho : s.ok (fun k => decide (k < h.length)) = true) : s.isStr = false ∧ s.one = true ∧ s.known = true ∧ s.cells = [s] ∧ lenV s = some (bs.length : Int) ∧
  (∀ k m, iadV 1 s (.i k m) = if 0 ≤ m ∧ m < (bs.length : Int) then some (elP 1 s m.toNat 0) else none) ∧ (∀ (x : RSt) L n, n < bs.length → ldV (rB h i j s x ++ L) none (elP 1 s n 0) = some (u8A (bs.getD n 0))) ∧
  (∀ (x : RSt) L, getS XQp (rB h i j s x ++ L) s = some bs) ∧ (∀ (x : RSt) L, srcV (rB h i j s x ++ L) 1 s = some (bs.length, XQp.cells bs)) ∧
  (∀ c lo hi anc past, s.ok (qOk (h.length + c) lo hi anc past) = true) ∧ (∀ c, s.ok (fun i => decide (i < h.length + c)) = true) ∧
  (∀ n j c lo hi anc past, n < bs.length → (elP 1 s n j).ok (qOk (h.length + c) lo hi anc past) = true) ∧ (∀ n j c, n < bs.length → (elP 1 s n j).ok (fun i => decide (i < h.length + c)) = true) := by
 obtain ⟨f1, f2, f3, f4, f5, f6, f7, f8, f9, f10, f11, f12, f13, f14⟩ := H.rd.fx ho (sz := 1) rfl
 refine ⟨f1, f2, f3, f4, f5, f6, fun x L n hn => ?_, fun x L => ((H.rB x).app L).get, fun x L => (H.rB x).src rfl L, f11, f12, f13, f14⟩
 exact ((H.rB x).app L).ld n 0 hn Nat.one_pos
end
end Go.Proofs.Ytpoojfnmhnedpaa
end
section
namespace Go.Proofs.Ytpoojfnmhnedpaa
set_option maxRecDepth 100000
set_option maxHeartbeats 4000000
def wsP : List AV → List Nat
 | .p k _ :: _ => [k]
 | _ => []
theorem KG3 (k o : Nat) (l : List AV) : wsP (.p k o :: l) = [k] := _root_.id rfl
theorem K6F (a x : Nat) (hx : x < 256) : a * 256 ||| x = a * 256 + x := by
 have h := Nat.two_pow_add_eq_or_of_lt (i := 8) (b := x) (by simpa using hx) a
 rw [Nat.mul_comm a 256]
 exact h.symm
theorem XCC (a : Nat) : binV .shl (.i .u64 (a : Int)) (.i .u64 8) = some (.i .u64 (IntKind.u64.wrap ((a : Int) * 256))) := _root_.id rfl
theorem K1K (k : IntKind) (a b : Int) : binV .or (.i k a) (.i k b) = some (.i k (k.wrap (BitVec.ofInt k.bits a ||| BitVec.ofInt k.bits b).toNat)) := by simp [binV, binI]
theorem qNI (a : Nat) (ha : a < 18446744073709551616) : IntKind.u64.wrap (a : Int) = (a : Int) := by rw [IntKind.wrap_u64]; omega
theorem QL9 (a x : Nat) (ha : a < 72057594037927936) (hx : x < 256) : binV .or (.i .u64 ((a * 256 : Nat) : Int)) (.i .u64 (x : Int)) = some (.i .u64 ((a * 256 + x : Nat) : Int)) := by
 rw [K1K, ← K6F a x hx]
 have hx2 : a * 256 ||| x < 2 ^ 64 := by rw [K6F a x hx]; omega
 have e1 : (BitVec.ofInt 64 ((a * 256 : Nat) : Int)).toNat = a * 256 := by
  rw [BitVec.ofInt_natCast, BitVec.toNat_ofNat]; exact Nat.mod_eq_of_lt (by omega)
 have e2 : (BitVec.ofInt 64 (x : Int)).toNat = x := by
  rw [BitVec.ofInt_natCast, BitVec.toNat_ofNat]; exact Nat.mod_eq_of_lt (by omega)
 have e3 : IntKind.bits .u64 = 64 := rfl
 rw [e3, BitVec.toNat_or, e1, e2, qNI _ (by omega)]
theorem Yjh (l : List UInt8) {m : Nat} (hm : m < l.length) : Xus (l.take (m + 1)) = Xus (l.take m) * 256 + (l.getD m 0).toNat := by
 rw [List.take_add_one, List.getD_eq_getElem?_getD, List.getElem?_eq_getElem hm]
 exact QP4 _ _
theorem K1m (l : List UInt8) {m : Nat} (hm : m ≤ 7) : Xus (l.take m) < 72057594037927936 := by
 have h := Kop (l.take m)
 have h2 : (l.take m).length ≤ 7 := by rw [List.length_take]; omega
 have h3 : 256 ^ (l.take m).length ≤ 256 ^ 7 := Nat.pow_le_pow_right (by decide) h2
 have h4 : 256 ^ 7 = 72057594037927936 := by decide
 omega
theorem qVj (k : IntKind) (n : Int) : (AV.i k n).int? = some n := _root_.id rfl
theorem XiN (k : IntKind) (a b : Int) : binV .geq (.i k a) (.i k b) = some (.b (decide (b ≤ a))) := by simp [binV, binI]
noncomputable def Z8o : List AV → List AB → Option (AV × List AB)
 | [.p i 0], h => (rdM h i).bind fun y => some (.i .i64 (zdk y.2.2.1 y.2.2.2).1, rB h i y.1 y.2.1 (zdk y.2.2.1 y.2.2.2).2)
 | _, _ => none
theorem btR {P : Program} {h : List AB} {i j : Nat} {s : AV} {x : RSt} {v a : AV} (e : v = a) : Bt P h.length [v] (rB h i j s x ++ []) [a] (rB h i j s x) := by
 rw [List.append_nil, e]
 exact Bt.refl _ _ _
theorem YKN : Spec Try.prog 66 Z8o := by
 intro args h v h' e
 unfold Z8o at e
 split at e
 ·rename_i i
  obtain ⟨j, s, bs, n, er, a, hi, hj, H, hn, e⟩ := ZQG e
  cases e
  refine FnAt.c (FnAt.run (by kernel_rfl) (T := ⟨[⟨77, KOW, fun _ => []⟩, ⟨76, qkr, wsP⟩, ⟨78, Zjo, fun _ => []⟩], []⟩) ⟨⟨QTk, q0q, J7w, trivial⟩, trivial⟩ Try.func66 sw66 fun ho hh => ?_)
  have hok := ZqH hh hi
  have e0 : h ++ [] = rB h i j s ⟨n, er, a⟩ ++ [] := by rw [YgC hi hj]
  rw [e0]
  have f1 := QbU H hok
  have f2 := zox H hok
  unfold w66
  by_cases g : er = 0
  case neg =>
   have g' := eq_false g
   have hr : zdk bs ⟨n, er, a⟩ = (0, ⟨n, er, a⟩) := Xn9 bs _ g
   rw [hr]
   simp only [Qfy, Q7I, qe2, qur, X6x, simprocAttr, CO.tmps, Opd.tmps, optT, Nat.reducePow, Nat.reduceDiv, Nat.reduceMod, f1, f2, g', KOW, zBI, List.getElem?_cons_zero, List.getElem?_cons_succ, not_false_eq_true, decide_true]
   exact btR rfl
  subst g
  have ff := fun S L e a' => K3z (x := ⟨n, 0, a⟩) H S L e a' rfl
  have m1 : bs.length ≤ maxLen := H.rd.2
  unfold maxLen at m1
  by_cases g1 : bs.length ≤ n
  ·have g1' : ((bs.length : Int) ≤ (n : Int)) = True := eq_true (by omega)
   have hr : zdk bs ⟨n, 0, a⟩ = (0, ⟨n, 6, n⟩) := by unfold zdk; rw [if_pos rfl, List.getElem?_eq_none (show bs.length ≤ n from g1)]
   rw [hr]
   simp only [Qfy, Q7I, qe2, qur, X6x, simprocAttr, CO.tmps, Opd.tmps, optT, Nat.reducePow, Nat.reduceDiv, Nat.reduceMod, f1, f2, g1', ff, KG3, XRQ H hok hh, KOW, zBI, List.getElem?_cons_zero, List.getElem?_cons_succ, not_true_eq_false, decide_false]
   exact btR rfl
  have g1' : ((bs.length : Int) ≤ (n : Int)) = False := eq_false (by omega)
  have hlt : (n < bs.length) = True := eq_true (by omega)
  have hge : ((0 : Int) ≤ (n : Int) ∧ (n : Int) < (bs.length : Int)) = True := eq_true (by omega)
  obtain ⟨C, hC⟩ : ∃ C, C = (bs.getD n 0).toNat := ⟨_, rfl⟩
  have hc1 : u8A (bs.getD n 0) = .i .u8 (C : Int) := by rw [hC]; rfl
  have hc2 : C < 256 := by rw [hC]; exact UInt8.toNat_lt _
  have hr0 : zdk bs ⟨n, 0, a⟩ = YjW bs ⟨n, 0, a⟩ C := by
   unfold zdk
   have q : n < bs.length := by omega
   rw [if_pos rfl, List.getElem?_eq_getElem (show (⟨n, 0, a⟩ : RSt).pos < bs.length from q), hC, List.getD_eq_getElem?_getD, List.getElem?_eq_getElem q]
   rfl
  have e1 : IntKind.i64.wrap (C : Int) = (C : Int) := zdT (by unfold In64; omega)
  have e2 : IntKind.i64.wrap ((C : Int) - 191) = (C : Int) - 191 := zdT (by unfold In64; omega)
  have e3 : IntKind.i64.wrap ((bs.length : Int) - (n : Int)) = (bs.length : Int) - n := zdT (by unfold In64; omega)
  have e4 : IntKind.i64.wrap ((bs.length : Int) - (n : Int) - 1) = (bs.length : Int) - n - 1 := zdT (by unfold In64; omega)
  have e5 : mmV true (.i .i64 ((C : Int) - 191)) (.i .i64 0) = some (.i .i64 ((C - 191 : Nat) : Int)) := by
   rw [JUa]
   congr 2
   omega
  rw [hr0]
  by_cases g2 : 199 < C
  ·have g2' : ((199 : Int) < (C : Int)) = True := eq_true (by omega)
   have hr : YjW bs ⟨n, 0, a⟩ C = (0, ⟨n, 5, n⟩) := by unfold YjW; rw [if_pos g2]
   rw [hr]
   simp only [Qfy, Q7I, qe2, qur, X6x, simprocAttr, CO.tmps, Opd.tmps, optT, Nat.reducePow, Nat.reduceDiv, Nat.reduceMod, f1, f2, g1', hlt, hge, hc1, e1, e2, e5, qVj, g2', ff, KG3, XRQ H hok hh, KOW, zBI, List.getElem?_cons_zero, List.getElem?_cons_succ, not_true_eq_false, decide_false]
   exact btR rfl
  have g2' : ((199 : Int) < (C : Int)) = False := eq_false (by omega)
  by_cases g3 : bs.length < n + 1 + (C - 191)
  ·have g3' : ((bs.length : Int) - (n : Int) - 1 < ((C - 191 : Nat) : Int)) = True := eq_true (by omega)
   have hr : YjW bs ⟨n, 0, a⟩ C = (0, ⟨n, 6, n⟩) := by unfold YjW; rw [if_neg g2, if_pos g3]
   rw [hr]
   simp only [Qfy, Q7I, qe2, qur, X6x, simprocAttr, CO.tmps, Opd.tmps, optT, Nat.reducePow, Nat.reduceDiv, Nat.reduceMod, f1, f2, g1', hlt, hge, hc1, e1, e2, e3, e4, e5, qVj, g2', g3', ff, KG3, XRQ H hok hh, KOW, zBI, List.getElem?_cons_zero, List.getElem?_cons_succ, not_true_eq_false, decide_false]
   exact btR rfl
  have g3' : ((bs.length : Int) - (n : Int) - 1 < ((C - 191 : Nat) : Int)) = False := eq_false (by omega)
  by_cases g4 : C < 192
  ·have g4' : (((C - 191 : Nat) : Int) = 0) = True := eq_true (by omega)
   have e6 : IntKind.i64.wrap ((n : Int) + 1) = ((n + 1 : Nat) : Int) := zdT (by unfold In64; omega)
   have hr : YjW bs ⟨n, 0, a⟩ C = ((C : Int), ⟨n + 1, 0, a⟩) := by unfold YjW; rw [if_neg g2, if_neg g3, if_pos g4]
   rw [hr]
   simp only [Qfy, Q7I, qe2, qur, X6x, simprocAttr, CO.tmps, Opd.tmps, optT, Nat.reducePow, Nat.reduceDiv, Nat.reduceMod, f1, f2, g1', hlt, hge, hc1, e1, e2, e3, e4, e5, e6, qVj, g2', g3', g4', KOW, zBI, List.getElem?_cons_zero, List.getElem?_cons_succ, not_true_eq_false, decide_false]
   exact btR rfl
  have g4' : (((C - 191 : Nat) : Int) = 0) = False := eq_false (by omega)
  obtain ⟨K, hK⟩ : ∃ K, K = C - 191 := ⟨_, rfl⟩
  have hK1 : 1 ≤ K ∧ K ≤ 8 := by omega
  obtain ⟨s', hs1, hs2, hs3, hs4⟩ := H.rd.cutS H.cap (a := n + 1) (b := n + (1 + K)) (by omega) (by omega) (sz := 1) rfl
  have e6 : IntKind.i64.wrap ((n : Int) + 1) = ((n + 1 : Nat) : Int) := zdT (by unfold In64; omega)
  have e7 : IntKind.i64.wrap (((n + 1 : Nat) : Int) + (K : Int)) = ((n + (1 + K) : Nat) : Int) := by
   rw [show ((n + 1 : Nat) : Int) + (K : Int) = ((n + (1 + K) : Nat) : Int) by omega]
   exact zdT (by unfold In64; omega)
  rw [show n + (1 + K) - (n + 1) = K by omega] at hs2
  obtain ⟨l, hl⟩ : ∃ l, l = (bs.drop (n + 1)).take K := ⟨_, rfl⟩
  have hll : l.length = K := by rw [hl, List.length_take, List.length_drop]; omega
  rw [← hl] at hs2
  have hr1 : YjW bs ⟨n, 0, a⟩ C = if 9223372036854775808 ≤ Xus l ∨ XDt (Xus l) ≠ K then (0, ⟨n, 5, n⟩) else (((Xus l : Nat) : Int), ⟨n + 1 + K, 0, a⟩) := by
   unfold YjW
   rw [if_neg g2, if_neg g3, if_neg g4, hl, hK]
  rw [hr1]
  have fs := hs2.fx (hs3 _ hok) (sz := 1) rfl
  have fp := QCL H hs2 hs4
  rw [hll] at fs fp
  rw [← hK] at g3' g4' e5
  simp only [Qfy, Q7I, qe2, qur, X6x, simprocAttr, CO.tmps, Opd.tmps, optT, Nat.reducePow, Nat.reduceDiv, Nat.reduceMod, f1, f2, g1', hlt, hge, hc1, e1, e2, e3, e4, e5, e6, e7, hs1, fs, qVj, g2', g3', g4', KOW, zBI, List.getElem?_cons_zero, List.getElem?_cons_succ, not_true_eq_false, decide_false]
  refine J4A (S := Nat) (fun k => K - k) (fun k => [.p i 0] ++ tp 3 ++ [.i .i64 K, .i .u64 (Xus (l.take k) : Nat)] ++ tp 99 ++ [s', .i .i64 K, .i .i64 k] ++ tp 38) (fun k => k ≤ K) 0 (Nat.zero_le _) (by simp only [qe2, X6x, simprocAttr, List.take_zero]; exact fun ρ c h => h) fun k hk => ?_
  by_cases g5 : k < K
  ·have g5' : ((k : Int) < (K : Int)) = True := eq_true (by omega)
   have g6' : ((0 : Int) ≤ (k : Int) ∧ (k : Int) < (K : Int)) = True := eq_true (by omega)
   have g7' := eq_true g5
   have q1 : IntKind.u64.wrap ((Xus (l.take k) : Int) * 256) = ((Xus (l.take k) * 256 : Nat) : Int) := by
    have := K1m l (m := k) (by omega)
    rw [show (Xus (l.take k) : Int) * 256 = ((Xus (l.take k) * 256 : Nat) : Int) by omega]
    exact qNI _ (by omega)
   have q2 : IntKind.u64.wrap (((l.getD k 0).toNat : Nat) : Int) = ((l.getD k 0).toNat : Int) := qNI _ (by have := UInt8.toNat_lt (l.getD k 0); omega)
   have q3 := QL9 (Xus (l.take k)) (l.getD k 0).toNat (K1m l (by omega)) (UInt8.toNat_lt _)
   have q4 : IntKind.i64.wrap ((k : Int) + 1) = ((k + 1 : Nat) : Int) := zdT (by unfold In64; omega)
   simp only [qe2, qur, X6x, simprocAttr, CO.tmps, Opd.tmps, optT, Nat.reducePow, Nat.reduceDiv, Nat.reduceMod, f1, f2, fs, fp, g5', g6', g7', u8A, q1, q2, q3, q4, qVj, XCC]
   refine ⟨k + 1, by omega, by omega, ?_⟩
   rw [Yjh l (by omega)]
   exact ⟨fun _ _ h => h, fun _ _ h => h⟩
  ·have g5' : ((k : Int) < (K : Int)) = False := eq_false (by omega)
   obtain rfl : k = K := by omega
   rw [List.take_of_length_le (by omega)]
   by_cases g8 : 9223372036854775808 ≤ Xus l
   ·have g8' : ((9223372036854775808 : Int) ≤ (Xus l : Int)) = True := eq_true (by omega)
    rw [if_pos (Or.inl g8)]
    simp only [qe2, qur, X6x, simprocAttr, CO.tmps, Opd.tmps, optT, Nat.reducePow, Nat.reduceDiv, Nat.reduceMod, f1, f2, g5', g8', XiN, ff, KG3, XRQ H hok hh]
    exact btR rfl
   ·have g8' : ((9223372036854775808 : Int) ≤ (Xus l : Int)) = False := eq_false (by omega)
    have q1 : IntKind.i64.wrap (Xus l : Int) = (Xus l : Int) := zdT (by unfold In64; omega)
    by_cases g9 : XDt (Xus l) = k
    ·have g9' : ((XDt (Xus l) : Int) = (k : Int)) = True := eq_true (by omega)
     have q2 : IntKind.i64.wrap (1 + (k : Int)) = ((1 + k : Nat) : Int) := zdT (by unfold In64; omega)
     have q3 : IntKind.i64.wrap ((n : Int) + ((1 + k : Nat) : Int)) = ((n + (1 + k) : Nat) : Int) := by
      rw [show (n : Int) + ((1 + k : Nat) : Int) = ((n + (1 + k) : Nat) : Int) by omega]
      exact zdT (by unfold In64; omega)
     rw [if_neg (by omega)]
     simp only [qe2, qur, X6x, simprocAttr, CO.tmps, Opd.tmps, optT, Nat.reducePow, Nat.reduceDiv, Nat.reduceMod, f1, f2, g5', g8', g9', q1, q2, q3, XiN, qVj, Zjo]
     exact btR rfl
    ·have g9' : ((XDt (Xus l) : Int) = (k : Int)) = False := eq_false (by omega)
     rw [if_pos (Or.inr g9)]
     simp only [qe2, qur, X6x, simprocAttr, CO.tmps, Opd.tmps, optT, Nat.reducePow, Nat.reduceDiv, Nat.reduceMod, f1, f2, g5', g8', g9', q1, XiN, qVj, Zjo, ff, KG3, XRQ H hok hh]
     exact btR rfl
 ·cases e
end Go.Proofs.Ytpoojfnmhnedpaa
end
section
namespace Go.Proofs.Ytpoojfnmhnedpaa
theorem ZVK {α : Type} {xs ys : List α} {i : Nat} (d : α) (hx : i < xs.length) (hy : i < ys.length) (e : xs.take i = ys.take i) : (xs.take (i + 1) = ys.take (i + 1)) ↔ xs.getD i d = ys.getD i d := by
 rw [List.take_succ_eq_append_getElem hx, List.take_succ_eq_append_getElem hy, e, List.append_right_inj, List.getD_eq_getElem?_getD, List.getD_eq_getElem?_getD, List.getElem?_eq_getElem hx, List.getElem?_eq_getElem hy]
 simp
theorem YY2 {α : Type} {xs ys : List α} {i : Nat} (hi : xs.length ≤ i) : (xs.length = ys.length ∧ xs.take i = ys.take i) ↔ xs = ys := by
 constructor
 ·rintro ⟨h1, h2⟩
  rwa [List.take_of_length_le hi, List.take_of_length_le (by omega)] at h2
 ·rintro rfl
  exact ⟨rfl, rfl⟩
theorem Xse {α : Type} {xs ys : List α} {i : Nat} (h : ¬ (xs.length = ys.length ∧ xs.take i = ys.take i)) : ¬ xs = ys := by
 rintro rfl
 exact h ⟨rfl, rfl⟩
end Go.Proofs.Ytpoojfnmhnedpaa
end
section
namespace Go.Proofs.Ytpoojfnmhnedpaa
set_option maxRecDepth 100000
set_option maxHeartbeats 4000000
theorem qOw {T : Env} {fr : List AV} {h : List AB} (x : Opd) : opR T (.b2s x) fr h = if (x.ev fr).isStr then none else (srcV h 1 (x.ev fr)).bind fun p => (bytesOf p.2).map fun l => (.s l, h) := _root_.id rfl
theorem KKB (l : List UInt8) : bytesOf (XQp.cells l) = some l := by
 rw [Kbg]
 induction l with
 | nil => rfl
 | cons x l ih =>
  simp only [List.map_cons, bytesOf, u8A, ih]
  simp
theorem J61 (x y : List UInt8) : binV .eql (.s x) (.s y) = some (.b (x == y)) := _root_.id rfl
noncomputable def qYW : List AV → List AB → Option (AV × List AB)
 | [a, b], h => (getS XQp h a).bind fun xs => (getS XQp h b).bind fun ys => some (.b (decide (xs = ys)), h)
 | _, _ => none
theorem Yp2 : Spec Try.prog 14 qYW := by
 intro args h v h' e
 unfold qYW at e
 split at e
 ·rename_i a b
  obtain ⟨xs, ha, e⟩ := Kra e
  obtain ⟨ys, hb, e⟩ := Kra e
  cases e
  refine FnAt.c (FnAt.frz0 fun hz => ?_)
  replace ha := ha.frz
  replace hb := hb.frz
  generalize h.map AB.freeze = h at *
  refine FnAt.run (by kernel_rfl) (T := ⟨[], []⟩) ⟨trivial, trivial⟩ Try.func14 sw14 fun ho hh => ?_
  simp only [Z3W, Bool.and_eq_true] at ho
  have fa := ha.fx ho.1 (sz := 1) rfl
  have fb := hb.fx ho.2.1 (sz := 1) rfl
  have sa := ha.src (sz := 1) rfl
  have sb := hb.src (sz := 1) rfl
  have ia := QYh ha.isSl
  have ib := QYh hb.isSl
  unfold w14
  simp only [Qfy, Q7I, qe2, qur, X6x, simprocAttr, CO.tmps, Opd.tmps, optT, Nat.reducePow, Nat.reduceDiv, Nat.reduceMod, fa, fb, sa, sb, ia, ib, qOw, KKB, J61, zDt hh, qwE hz, ZqV hz, zhe hz]
  exact Bt.dropB _ hh (Bool.eq_iff_iff.2 (by simp))
 ·cases e
theorem qiy : ∀ (ks ks' : List CK) (xs xs' ys ys' : List AV), ks.length = xs.length → ks.length = ys.length → K1E (ks ++ ks') (xs ++ xs') (ys ++ ys') = (K1E ks xs ys).bind fun p => (K1E ks' xs' ys').map (p && ·)
 | [], ks', [], xs', [], ys', _, _ => by
  simp only [List.nil_append, K1E, Option.bind_some, Bool.true_and]
  cases K1E ks' xs' ys' <;> rfl
 | k :: ks, ks', x :: xs, xs', y :: ys, ys', h1, h2 => by
  simp only [List.cons_append, K1E]
  rw [qiy ks ks' xs xs' ys ys' (by simpa using h1) (by simpa using h2)]
  cases JCq k x y with
  | none => rfl
  | some r =>
   simp only [Option.bind_some]
   cases K1E ks xs ys with
   | none => rfl
   | some p =>
    simp only [Option.bind_some, Option.map_some]
    cases K1E ks' xs' ys' with
    | none => rfl
    | some q => simp only [Option.map_some, Bool.and_assoc]
theorem JrD (a b : Dsc) : K1E (.i :: (List.replicate 32 .i ++ [.i, .s])) (deR.f a) (deR.f b) = some (decide (a = b)) := by
 have h := eqcB a.id.l b.id.l (a.id.h.trans b.id.h.symm)
 rw [a.id.h] at h
 rw [z3j, z3j]
 show ((JCq .i (.i .i64 a.media) (.i .i64 b.media)).bind fun r => (K1E (List.replicate 32 .i ++ [.i, .s]) (a.id.l.map u8A ++ [.i .i64 a.size, .s a.plat]) (b.id.l.map u8A ++ [.i .i64 b.size, .s b.plat])).map (r && ·)) = _
 rw [qiy _ _ _ _ _ _ (by rw [List.length_replicate, List.length_map, a.id.h]) (by rw [List.length_replicate, List.length_map, b.id.h]), h]
 simp only [K1E, JCq, if_true, Option.bind_some, Option.map_some, Option.some.injEq]
 rw [Bool.eq_iff_iff]
 simp only [Bool.and_eq_true, beq_iff_eq, decide_eq_true_eq, and_true]
 constructor
 ·rintro ⟨q1, q2, q3, q4⟩
  obtain ⟨a1, a2, a3, a4⟩ := a
  obtain ⟨b1, b2, b3, b4⟩ := b
  dsimp only at q1 q2 q3 q4
  subst q1 q3 q4
  rw [Dg.ext q2]
 ·rintro rfl
  exact ⟨rfl, rfl, rfl, rfl⟩
theorem zA3 (a b : Dsc) : K1E [.i, .i, .i, .i, .i, .i, .i, .i, .i, .i, .i, .i, .i, .i, .i, .i, .i, .i, .i, .i, .i, .i, .i, .i, .i, .i, .i, .i, .i, .i, .i, .i, .i, .i, .s] (deR.f a) (deR.f b) = some (decide (a = b)) := JrD a b
theorem QEK (q : Nat → Bool) (x : Dsc) : okL q (deR.f x) = true := by
 have := YgR x
 generalize deR.f x = l at *
 induction l with
 | nil => rfl
 | cons a l ih =>
  rw [Z3W, ih fun b hb => this b (List.mem_cons_of_mem _ hb), Bool.and_true]
  have := this a List.mem_cons_self
  cases a <;> first | rfl | (cases this; done)
noncomputable def QvN : List AV → List AB → Option (AV × List AB)
 | [a, b], h => (getS deR h a).bind fun xs => (getS deR h b).bind fun ys => some (.b (decide (xs = ys)), h)
 | _, _ => none
theorem QEM : Spec Try.prog 15 QvN := by
 intro args h v h' e
 unfold QvN at e
 split at e
 ·rename_i a b
  obtain ⟨xs, ha, e⟩ := Kra e
  obtain ⟨ys, hb, e⟩ := Kra e
  cases e
  refine FnAt.c (FnAt.frz0 fun hz => ?_)
  replace ha := ha.frz
  replace hb := hb.frz
  generalize h.map AB.freeze = h at *
  refine FnAt.run (by kernel_rfl) (T := ⟨[], []⟩) ⟨trivial, trivial⟩ Try.func15 sw15 fun ho hh => ?_
  simp only [Z3W, Bool.and_eq_true] at ho
  have fa := ha.fx ho.1 (sz := 35) rfl
  have fb := hb.fx ho.2.1 (sz := 35) rfl
  unfold w15
  simp only [Qfy, Q7I, qe2, X6x, simprocAttr, fa, fb]
  refine J4A (S := Nat) (fun i => xs.length - i) (fun i => [a, b] ++ tp 3 ++ [.b (decide (xs.length = ys.length ∧ xs.take i = ys.take i)), .i .i64 i] ++ tp 24) (fun i => xs.length = ys.length → i ≤ xs.length) 0 (fun _ => Nat.zero_le _) (by simp only [qe2, X6x, simprocAttr, List.take_zero]) fun i hi => ?_
  simp only [qe2, X6x, simprocAttr, fa, fb]
  refine ⟨fun h1 => ⟨fun h2 => ?_, fun h2 => ?_⟩, fun h1 => ?_⟩
  ·have h3 : i < ys.length := by omega
   have e1 : IntKind.i64.wrap ((i : Int) + 1) = ((i + 1 : Nat) : Int) := zdT (by have := ha.2; unfold maxLen at this; unfold In64; omega)
   simp only [qe2, qur, X6x, simprocAttr, CO.tmps, Opd.tmps, optT, Nat.reducePow, Nat.reduceDiv, Nat.reduceMod, fa, fb, h2, h3, zA3, QEK, Nat.zero_lt_one, e1]
   refine ⟨i + 1, fun _ => h2, by omega, ?_, Wk.refl _⟩
   have e2 : (xs.length = ys.length ∧ xs.take (i + 1) = ys.take (i + 1)) = (xs.getD i deR.d = ys.getD i deR.d) := propext (by rw [and_iff_right h1.1]; exact ZVK _ h2 h3 h1.2)
   simp only [e2, QN3]
  ·exact Bt.eq (by simp only [AV.b.injEq, decide_eq_decide]; exact YY2 (by omega)) (List.append_nil h)
  ·exact Bt.eq (by simp only [AV.b.injEq, decide_eq_decide]; exact iff_of_false h1 (Xse h1)) (List.append_nil h)
 ·cases e
end Go.Proofs.Ytpoojfnmhnedpaa
end
section
namespace Go.Proofs.Ytpoojfnmhnedpaa
set_option maxRecDepth 100000
set_option maxHeartbeats 4000000
theorem YA5 {bs : List UInt8} {x : RSt} (h : x.pos ≤ bs.length) : (zdk bs x).2.pos ≤ bs.length := by
 by_cases g : x.err = 0
 ·exact (RGood.num (bs := bs) ⟨h, fun q => absurd g q⟩).1
 ·rw [Xn9 bs x g]; exact h
theorem ZtG {bs : List UInt8} {x : RSt} (m : Int) (h : x.pos ≤ bs.length) : (J7K bs x m).2.pos ≤ bs.length := by
 by_cases g : x.err = 0
 ·exact (RGood.many (bs := bs) ⟨h, fun q => absurd g q⟩ m).1
 ·rw [JRM bs x m g]; exact h
theorem q6m {bs : List UInt8} {x : RSt} (m : Nat) (a : Int) (h : x.pos ≤ bs.length) : (Q47 bs x m a).2.pos ≤ bs.length := by
 unfold Q47
 split
 ·split
  ·exact h
  ·dsimp only; omega
 ·exact h
noncomputable def JGK : List AV → List AB → Option (AV × List AB)
 | [.p i 0, .i .i64 m], h => (rdM h i).bind fun y => some (.i .i64 (J7K y.2.2.1 y.2.2.2 m).1, rB h i y.1 y.2.1 (J7K y.2.2.1 y.2.2.2 m).2)
 | _, _ => none
theorem Jcw : Spec Try.prog 88 JGK := by
 intro args h v h' e
 unfold JGK at e
 split at e
 ·rename_i i most
  obtain ⟨j, s, bs, n, er, a, hi, hj, H, hn, e⟩ := ZQG e
  cases e
  refine FnAt.c (FnAt.run (by kernel_rfl) (T := ⟨[⟨77, KOW, fun _ => []⟩, ⟨76, qkr, wsP⟩, ⟨66, Z8o, fun _ => []⟩], []⟩) ⟨⟨QTk, q0q, YKN, trivial⟩, trivial⟩ Try.func88 sw88 fun ho hh => ?_)
  have hok := ZqH hh hi
  have e0 : h ++ [] = rB h i j s ⟨n, er, a⟩ ++ [] := by rw [YgC hi hj]
  rw [e0]
  have f1 := QbU H hok
  have f2 := zox H hok
  have f3 := zZ3 (x := ⟨n, er, a⟩) H hn
  have f4 := fun x => qWR (x := x) H
  have f5 := fun x => XzS (x := x) H
  unfold w88
  by_cases g : er = 0
  case neg =>
   have g' := eq_false g
   have hr : J7K bs ⟨n, er, a⟩ most = (0, ⟨n, er, a⟩) := JRM bs _ most g
   rw [hr]
   simp only [Qfy, Q7I, qe2, qur, X6x, simprocAttr, CO.tmps, Opd.tmps, optT, Nat.reducePow, Nat.reduceDiv, Nat.reduceMod, f1, f2, g', KOW, zBI, List.getElem?_cons_zero, List.getElem?_cons_succ, not_false_eq_true, decide_true]
   exact btR rfl
  have g' := eq_true g
  by_cases g2 : most < (zdk bs ⟨n, er, a⟩).1
  ·have g2' := eq_true g2
   have hr : J7K bs ⟨n, er, a⟩ most = ((zdk bs ⟨n, er, a⟩).1, (zdk bs ⟨n, er, a⟩).2.fail 4 n) := by unfold J7K; rw [if_pos g, if_pos g2]
   rw [hr]
   simp only [Qfy, Q7I, qe2, qur, X6x, simprocAttr, CO.tmps, Opd.tmps, optT, Nat.reducePow, Nat.reduceDiv, Nat.reduceMod, f1, f2, f3, f4, f5, g', g2', KOW, Z8o, zBI, List.getElem?_cons_zero, List.getElem?_cons_succ, not_true_eq_false, decide_false]
   exact btR rfl
  ·have g2' := eq_false g2
   have hr : J7K bs ⟨n, er, a⟩ most = zdk bs ⟨n, er, a⟩ := by unfold J7K; rw [if_pos g, if_neg g2]
   rw [hr]
   simp only [Qfy, Q7I, qe2, qur, X6x, simprocAttr, CO.tmps, Opd.tmps, optT, Nat.reducePow, Nat.reduceDiv, Nat.reduceMod, f1, f2, f3, f4, f5, g', g2', KOW, Z8o, zBI, List.getElem?_cons_zero, List.getElem?_cons_succ, not_true_eq_false, decide_false]
   exact btR rfl
 ·cases e
theorem QWz (S : List Nat) (H x : List AB) : KJX [] (YiL S [] 0 H ++ x) 0 H = H ++ x := by
 refine List.ext_getElem? fun k => ?_
 rw [KN2, Nat.zero_add]
 split
 ·rename_i hk
  rw [if_neg (by simp), List.getElem?_append_left hk]
 ·rename_i hk
  rw [List.getElem?_append_right (by rw [ZSR]; omega), List.getElem?_append_right (by omega), ZSR]
section
variable {c : Ctx} {k : List IT} {fr : List AV} {len0 n anc : Nat} {past : List Pt} {d : Option Nat} {ops : List DOp}
theorem JvC (S : List Nat) (vs : List AV) (v : AV) (H x : List AB) : W c (.dmk [] vs (some (v, YiL S [] 0 H ++ x)) len0 n anc past d ops :: k) fr H = (okL (fun i => decide (i < H.length)) vs = true ∧ HOk H ∧ indA len0 anc past [] past = true ∧ v.ok (qOk len0 H.length (H.length + x.length) anc past) = true ∧ (x.all fun B => B.ok (qOk len0 H.length (H.length + x.length) anc past)) = true ∧
      W c (.drw len0 (n + 1) (⟨n, H.length, H.length + x.length, seen len0 anc (Yc4 past) H.length, []⟩ :: past) ops :: k) (put fr d v) (H ++ x)) := by
  have e0 : (YiL S [] 0 H ++ x).length = H.length + x.length := by rw [List.length_append, ZSR]
  have e1 : (YiL S [] 0 H ++ x).drop H.length = x := List.drop_left' (ZSR _ _ _ _)
  have e2 : (H.length ≤ H.length + x.length) = True := eq_true (by omega)
  rw [← Q5r, KAR, QWz, e0, e1]
  simp only [List.all_nil, e2, true_and]
end
noncomputable def z2F : List AV → List AB → Option (AV × List AB)
 | [.p i 0, .i .i64 m, .i .i64 a], h => if 0 ≤ m then (rdM h i).bind fun y => if y.2.2.1.length ≤ 1000000 then some (rsl XQp h.length (Q47 y.2.2.1 y.2.2.2 m.toNat a).1, rB h i y.1 y.2.1 (Q47 y.2.2.1 y.2.2.2 m.toNat a).2 ++ [resB XQp true (Q47 y.2.2.1 y.2.2.2 m.toNat a).1]) else none else none
 | _, _ => none
theorem btRn {P : Program} {h : List AB} {i j : Nat} {s : AV} {x : RSt} {l : List UInt8} (h0 : l.length = 0) : Bt P h.length [.ns] (rB h i j s x ++ []) [rsl XQp h.length l] (rB h i j s x ++ [resB XQp true l]) := by
 have := Bt.one0 (P := P) (h := rB h i j s x) (v := .ns) (r := XQp) (l := l) h0 (Wk.nil _ _)
 rw [XNE] at this
 exact this
theorem J0q : Spec Try.prog 87 z2F := by
 intro args h v h' e
 unfold z2F at e
 split at e
 ·rename_i i m at0
  split at e
  ·rename_i hm
   obtain ⟨m, rfl⟩ := Int.eq_ofNat_of_zero_le hm
   obtain ⟨j, s, bs, n, er, a, hi, hj, H, hn, e⟩ := ZQG e
   split at e
   ·rename_i hlen
    cases e
    rw [Int.toNat_natCast]
    refine FnAt.c (FnAt.run (by kernel_rfl) (T := ⟨[⟨77, KOW, fun _ => []⟩, ⟨76, qkr, wsP⟩, ⟨59, ZsH, fun _ => []⟩], []⟩) ⟨⟨QTk, q0q, QwR, trivial⟩, trivial⟩ Try.func87 sw87 fun ho hh => ?_)
    have hok := ZqH hh hi
    have e0 : h ++ [] = rB h i j s ⟨n, er, a⟩ ++ [] := by rw [YgC hi hj]
    rw [e0]
    have f1 := QbU H hok
    have f2 := zox H hok
    have f5 := fun x => XzS (x := x) H
    unfold w87
    by_cases g : er = 0
    case neg =>
     have g' := eq_false g
     have hr : Q47 bs ⟨n, er, a⟩ m at0 = ([], ⟨n, er, a⟩) := qtI bs _ m at0 g
     rw [hr]
     simp only [Qfy, Q7I, qe2, qur, X6x, simprocAttr, CO.tmps, Opd.tmps, optT, Nat.reducePow, Nat.reduceDiv, Nat.reduceMod, f1, f2, g', KOW, zBI, List.getElem?_cons_zero, List.getElem?_cons_succ, not_false_eq_true, decide_true]
     exact btRn rfl
    subst g
    dsimp only at hlen
    have e3 : IntKind.i64.wrap ((bs.length : Int) - (n : Int)) = (bs.length : Int) - n := zdT (by unfold In64; omega)
    by_cases g1 : bs.length < n + m
    ·have g1' : ((bs.length : Int) - (n : Int) < (m : Int)) = True := eq_true (by omega)
     have hr : Q47 bs ⟨n, 0, a⟩ m at0 = ([], ⟨n, 6, at0⟩) := by unfold Q47; rw [if_pos rfl, if_pos g1]
     rw [hr]
     simp only [Qfy, Q7I, qe2, qur, X6x, simprocAttr, CO.tmps, Opd.tmps, optT, Nat.reducePow, Nat.reduceDiv, Nat.reduceMod, f1, f2, f5, e3, g1', KOW, zBI, List.getElem?_cons_zero, List.getElem?_cons_succ, not_true_eq_false, decide_false]
     exact btRn rfl
    ·have g1' : ((bs.length : Int) - (n : Int) < (m : Int)) = False := eq_false (by omega)
     have hr : Q47 bs ⟨n, 0, a⟩ m at0 = ((bs.drop n).take m, ⟨n + m, 0, a⟩) := by unfold Q47; rw [if_pos rfl, if_neg g1]
     rw [hr]
     obtain ⟨s', hs1, hs2, hs3, hs4⟩ := H.rd.cutS H.cap (a := n) (b := n + m) (by omega) (by omega) (sz := 1) rfl
     rw [show n + m - n = m by omega] at hs2
     have e4 : IntKind.i64.wrap ((n : Int) + (m : Int)) = ((n + m : Nat) : Int) := by
      rw [← Int.natCast_add]
      exact zdT (by unfold In64; omega)
     have hll : ((bs.drop n).take m).length = m := by rw [List.length_take, List.length_drop]; omega
     have fs := hs2.fx (hs3 _ hok) (sz := 1) rfl
     have fp := QCL H hs2 hs4
     have l1 : (((bs.drop n).take m).length ≤ 1000000) = True := eq_true (by omega)
     have fm : ∀ (x : RSt) L c anc past n', n' = h.length + L.length → getS XQp (YiL (seen (h.length + c) anc past n') [] 0 (rB h i j s x ++ L)) s' = some ((bs.drop n).take m) := fun x L c anc past n' hn' => by
      refine (Rd.mask (((hs2.setB (fun k hk => (H.q k (hs4 k hk)).1) _).setB (fun k hk => (H.q k (hs4 k hk)).2) _).app L) fun k hk => ?_).get
      have hlt : k < h.length := H.lt k (hs4 k hk)
      exact ZaJ (by omega) (by omega)
     simp only [Qfy, Q7I, qe2, qur, X6x, simprocAttr, CO.tmps, Opd.tmps, optT, Nat.reducePow, Nat.reduceDiv, Nat.reduceMod, f1, f2, f5, e3, e4, g1', hs1, fs, fp, fm, l1, ZsH, ZSR, JvC, KOW, zBI, XRQ H hok hh, List.getElem?_cons_zero, List.getElem?_cons_succ, not_true_eq_false, decide_false]
     exact Bt.eq rfl rfl
   ·cases e
  ·cases e
 ·cases e
noncomputable def JBU : List AV → List AB → Option (AV × List AB)
 | [.p i 0, .i .i64 m], h => (rdM h i).bind fun y => if y.2.2.1.length ≤ 1000000 then some (rsl XQp h.length (YVk y.2.2.1 y.2.2.2 m).1, rB h i y.1 y.2.1 (YVk y.2.2.1 y.2.2.2 m).2 ++ [resB XQp true (YVk y.2.2.1 y.2.2.2 m).1]) else none
 | _, _ => none
theorem ZNR : Spec Try.prog 79 JBU := by
 intro args h v h' e
 unfold JBU at e
 split at e
 ·rename_i i m
  obtain ⟨j, s, bs, n, er, a, hi, hj, H, hn, e⟩ := ZQG e
  split at e
  ·rename_i hlen
   cases e
   refine FnAt.c (FnAt.run (by kernel_rfl) (T := ⟨[⟨86, ZZC, fun _ => []⟩, ⟨88, JGK, fun _ => []⟩, ⟨87, z2F, fun _ => []⟩], []⟩) ⟨⟨qXO, Jcw, J0q, trivial⟩, trivial⟩ Try.func79 sw79 fun ho hh => ?_)
   have hok := ZqH hh hi
   have e0 : h ++ [] = rB h i j s ⟨n, er, a⟩ ++ [] := by rw [YgC hi hj]
   rw [e0]
   dsimp only at hlen ⊢
   have f1 := QbU H hok
   have f2 := zox H hok
   have f3 := zZ3 (x := ⟨n, er, a⟩) H hn
   have f4 := fun x => qWR (x := x) H
   have f5 := zTq (x := ⟨n, er, a⟩) H
   have f6 := zZ3 (x := (J7K bs ⟨n, er, a⟩ m).2) H (ZtG m hn)
   obtain ⟨N, hN⟩ : ∃ N : Nat, (J7K bs ⟨n, er, a⟩ m).1 = (N : Int) := ⟨_, (Int.toNat_of_nonneg (ZsF bs _ m).1).symm⟩
   have g1 : ((0 : Int) ≤ (N : Int)) = True := eq_true (by omega)
   have g2 : (bs.length ≤ 1000000) = True := eq_true hlen
   have hr : YVk bs ⟨n, er, a⟩ m = Q47 bs (J7K bs ⟨n, er, a⟩ m).2 N (if er = 0 then (n : Int) else 0) := by
    unfold YVk
    rw [hN, Int.toNat_natCast]
    rfl
   rw [hr]
   unfold w79
   simp only [Qfy, Q7I, qe2, qur, X6x, simprocAttr, CO.tmps, Opd.tmps, optT, Nat.reducePow, Nat.reduceDiv, Nat.reduceMod, f1, f2, f3, f4, f5, f6, g1, g2, hN, ZZC, JGK, z2F, List.getElem?_cons_zero, List.getElem?_cons_succ]
   exact Bt.eq rfl rfl
  ·cases e
 ·cases e
noncomputable def JWq : List AV → List AB → Option (AV × List AB)
 | [.p i 0, .i .i64 m], h => (rdM h i).bind fun y => if y.2.2.1.length ≤ 1000000 then some (.s (YVk y.2.2.1 y.2.2.2 m).1, rB h i y.1 y.2.1 (YVk y.2.2.1 y.2.2.2 m).2) else none
 | _, _ => none
theorem JRb : Spec Try.prog 67 JWq := by
 intro args h v h' e
 unfold JWq at e
 split at e
 ·rename_i i m
  obtain ⟨j, s, bs, n, er, a, hi, hj, H, hn, e⟩ := ZQG e
  split at e
  ·rename_i hlen
   cases e
   refine FnAt.c (FnAt.run (by kernel_rfl) (T := ⟨[⟨79, JBU, fun _ => []⟩], []⟩) ⟨⟨ZNR, trivial⟩, trivial⟩ Try.func67 sw67 fun ho hh => ?_)
   have hok := ZqH hh hi
   have e0 : h ++ [] = rB h i j s ⟨n, er, a⟩ ++ [] := by rw [YgC hi hj]
   rw [e0]
   dsimp only at hlen ⊢
   have f1 := QbU H hok
   have f2 := zox H hok
   have f3 := zZ3 (x := ⟨n, er, a⟩) H hn
   have f4 := fun x => qWR (x := x) H
   have g2 : (bs.length ≤ 1000000) = True := eq_true hlen
   have fs : ∀ (y : RSt) l, srcV (rB h i j s y ++ [resB XQp true l]) 1 (rsl XQp (h.length + 0) l) = some (l.length, XQp.cells l) := fun y l => by
    have := QQ8 (h := rB h i j s y) (r := XQp) (sz := 1) rfl [resB XQp true l] 0 l ⟨true, rfl⟩
    rw [XNE] at this
    exact this
   unfold w67
   simp only [Qfy, Q7I, qe2, qur, X6x, simprocAttr, CO.tmps, Opd.tmps, optT, Nat.reducePow, Nat.reduceDiv, Nat.reduceMod, f1, f2, f3, f4, fs, g2, JBU, qOw, KKB, List.getElem?_cons_zero, List.getElem?_cons_succ]
   have := Bt.drop (P := Try.prog) (h := rB h i j s (YVk bs ⟨n, er, a⟩ m).2) (v := .s (YVk bs ⟨n, er, a⟩ m).1) [resB XQp true (YVk bs ⟨n, er, a⟩ m).1] (qfE H hok hh _) rfl (by rw [XNE]; rfl)
   rw [XNE] at this
   exact this
  ·cases e
 ·cases e
end Go.Proofs.Ytpoojfnmhnedpaa
end
