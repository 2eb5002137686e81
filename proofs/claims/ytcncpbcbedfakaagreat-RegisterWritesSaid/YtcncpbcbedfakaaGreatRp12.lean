/- Part 12 of what the laws' proofs rest on. No condition. -/
import Derived.Test.YtcncpbcbedfakaaGreatProg
import Derived.Test.YtcncpbcbedfakaaGreatRp11
set_option linter.all false
section
namespace Go.Proofs.YtcncpbcbedfakaaGreat
open Go.ChangeShapes Go.WideShapes Go.ChangeAt Go.RowKit
section
variable {K : Code → CC → Prop} {ρ : Mp} {h : List AB} {w : World}
theorem In.hz (i : In K ρ h w) : h.map AB.freeze = h := by
 refine List.ext_getElem? fun j => ?_
 rw [List.getElem?_map]
 cases e : h[j]? with
 | none => rfl
 | some B =>
  have := i.frz B (List.mem_of_getElem? e)
  rw [Option.map_some]
  congr 1
  cases B <;> first | rfl | (cases this; done) | (simp only [AB.mut] at this; subst this; rfl)
theorem In.sl {α : Type} {r : Row α} (i : In K ρ h w) (hfl : ∀ x, ∀ a ∈ r.f x, a.fl = true) {v : Value} {l : List α} (hs : Sl w v l.length ((r.cells l).map AV.val)) :
  ∃ x s B, In K (ρ ++ [x]) (h ++ [B]) w ∧ VR (ρ ++ [x]) s v ∧ Rd r (h ++ [B]) s l ∧ Ext ρ (ρ ++ [x]) ∧ s.capOk = true := by
 obtain ⟨hl, x, i', vr⟩ := i.slice hfl hs
 exact ⟨x, _, _, i', vr, Qgm (by rw [List.getElem?_append_right (Nat.le_refl _), Nat.sub_self]; rfl) hl, Ext.push _ _, Ycd _ _⟩
theorem RdL.row {α : Type} {r : Row α} {v : Value} {ts : List α} (e : RdL (fun _ cs x => cs = (r.f x).map AV.val) r.sz w v ts) : Sl w v ts.length ((r.cells ts).map AV.val) := by
 obtain ⟨cs, h1, h2, h3⟩ := e
 have hcs : cs = (r.cells ts).map AV.val := by
  apply List.ext_getElem?
  intro k
  by_cases hk : k < ts.length * r.sz
  ·have hi : k / r.sz < ts.length := (Nat.div_lt_iff_lt_mul r.pos).2 hk
   have hj := Nat.mod_lt k r.pos
   have ek : k = k / r.sz * r.sz + k % r.sz := by rw [Nat.mul_comm]; exact (Nat.div_add_mod k r.sz).symm
   have ht : ts[k / r.sz]? = some (ts.getD (k / r.sz) r.d) := by rw [List.getD_eq_getElem?_getD, List.getElem?_eq_getElem hi]; rfl
   have q := h3 _ _ ht
   have q1 : ((cs.drop (k / r.sz * r.sz)).take r.sz)[k % r.sz]? = ((r.f (ts.getD (k / r.sz) r.d)).map AV.val)[k % r.sz]? := by rw [q]
   rw [List.getElem?_take_of_lt hj, List.getElem?_drop, ← ek, List.getElem?_map, ← r.cells_get ts _ _ hi hj, ← ek] at q1
   rw [q1, List.getElem?_map]
  ·rw [List.getElem?_eq_none (by omega), List.getElem?_eq_none (by rw [List.length_map, r.cells_len]; omega)]
 rw [hcs] at h1
 exact h1
end
section
variable {H : Type} {enc : TypeId × Value → H} {w : World} {base : Nat} {held : Bool}
theorem JSm {α : Type} {l : List α} (h : l.length = 2) : ∃ a b, l = [a, b] := by
 match l, h with
 | [a, b], _ => exact ⟨a, b, rfl⟩
theorem QVC {fuel : Nat} {cs : List Value} {x : DataW H × List MemPlace} (h : DataW.trod enc Tryz.prog w base (fun _ => true) held fuel 23 cs = some x) : ∃ v, cs = [v] ∧ ∃ xs : List Int, Sl w v xs.length ((intR.cells xs).map AV.val) := by
 obtain ⟨v, h1, ts, h2⟩ := ZPB (fun _ cs (c : Int) => cs = (intR.f c).map AV.val) Tryz.underlying23 (size := 1) (by kernel_rfl) (by decide) (fun fuel cs x hx => by
  obtain ⟨n, rfl, hw⟩ := K2q Tryz.underlying3 hx
  exact ⟨n, by rw [ze8]; rfl⟩) h
 exact ⟨v, h1, ts, RdL.row (r := intR) h2⟩
theorem Yne {fuel : Nat} {cs : List Value} {x : DataW H × List MemPlace} (h : DataW.trod enc Tryz.prog w base (fun _ => true) held fuel 38 cs = some x) : ∃ r n, cs = [.int .i64 r, .int .i64 n] ∧ (-9223372036854775808 ≤ r ∧ r ≤ 9223372036854775807) ∧ (-9223372036854775808 ≤ n ∧ n ≤ 9223372036854775807) := by
 cases fuel with
 | zero => cases h
 | succ fuel =>
  obtain ⟨hl, he⟩ := J3V Tryz.underlying38 h
  have hl2 : cs.length = 2 := hl.trans (by kernel_rfl)
  simp only [List.forall_mem_cons] at he
  obtain ⟨⟨y0, h0⟩, ⟨y1, h1⟩, _⟩ := he
  rw [(by kernel_rfl : Tryz.prog.cellsOf 3 = 1)] at h0 h1
  obtain ⟨r, e0, w0⟩ := K2q Tryz.underlying3 h0
  obtain ⟨n, e1, w1⟩ := K2q Tryz.underlying3 h1
  obtain ⟨a, b, rfl⟩ := JSm hl2
  have e0' : [a] = _ := e0
  have e1' : [b] = _ := e1
  cases e0'
  cases e1'
  exact ⟨r, n, rfl, zZv w0, zZv w1⟩
theorem YYg {fuel : Nat} {cs : List Value} {x : DataW H × List MemPlace} (h : DataW.trod enc Tryz.prog w base (fun _ => true) held fuel 24 cs = some x) : ∃ v, cs = [v] ∧ ∃ xs : List (Int × Int), Sl w v xs.length ((dotR.cells xs).map AV.val) := by
 obtain ⟨v, h1, ts, h2⟩ := ZPB (fun _ cs (c : Int × Int) => cs = (dotR.f c).map AV.val) Tryz.underlying24 (size := 2) (by kernel_rfl) (by decide) (fun fuel cs x hx => by
  obtain ⟨r, n, rfl, _, _⟩ := Yne hx
  exact ⟨(r, n), by rw [X5J]; rfl⟩) h
 exact ⟨v, h1, ts, RdL.row (r := dotR) h2⟩
theorem qpq {fuel : Nat} {cs : List Value} {x : DataW H × List MemPlace} (h : DataW.trod enc Tryz.prog w base (fun _ => true) held fuel 26 cs = some x) :
  ∃ v d, cs = [v, d] ∧ (∃ xs : List Int, Sl w v xs.length ((intR.cells xs).map AV.val)) ∧ ∃ ds : List (Int × Int), Sl w d ds.length ((dotR.cells ds).map AV.val) := by
 cases fuel with
 | zero => cases h
 | succ fuel =>
  obtain ⟨hl, he⟩ := J3V Tryz.underlying26 h
  have hl2 : cs.length = 2 := hl.trans (by kernel_rfl)
  simp only [List.forall_mem_cons] at he
  obtain ⟨⟨y0, h0⟩, ⟨y1, h1⟩, _⟩ := he
  rw [(by kernel_rfl : Tryz.prog.cellsOf 23 = 1)] at h0
  rw [(by kernel_rfl : Tryz.prog.cellsOf 24 = 1)] at h1
  obtain ⟨v, e0, s0⟩ := QVC h0
  obtain ⟨d, e1, s1⟩ := YYg h1
  obtain ⟨a, b, rfl⟩ := JSm hl2
  have e0' : [a] = _ := e0
  have e1' : [b] = _ := e1
  cases e0'
  cases e1'
  exact ⟨_, _, rfl, s0, s1⟩
end
end Go.Proofs.YtcncpbcbedfakaaGreat
end
section
namespace Go.Proofs.YtcncpbcbedfakaaGreat
section
variable {α : Type} {r : Row α} {h l : List AB}
def mskQ (base c anc : Nat) (past : List Pt) (l : List AB) : List AB := mskL base c anc past [] 0 l
def vis (base c anc : Nat) (past : List Pt) (k : Nat) : Bool := decide (k < c) || past.any (fun p => bit p.k anc && decide (p.lo ≤ base + k) && decide (base + k < p.hi))
theorem z4j (base c anc : Nat) (past : List Pt) (k : Nat) : qOk (base + c) 0 0 anc past (base + k) = vis base c anc past k := by
 rw [qtW]
 unfold vis
 have e1 : decide (base + k < base + c) = decide (k < c) := decide_eq_decide.2 (by omega)
 have e2 : decide (base + k < 0) = false := decide_eq_false (by omega)
 rw [e1, e2, Bool.and_false, Bool.or_false]
theorem zh3 (base c anc : Nat) (past : List Pt) (l : List AB) (k : Nat) : (mskQ base c anc past l)[k]? = (l[k]?).map fun B => if vis base c anc past k = true then B.freeze else .dead := by
 unfold mskQ
 rw [qxx, Nat.zero_add]
 congr 1
 funext B
 rw [z4j]
 simp [ZdO]
theorem qu0 (base c anc : Nat) (past : List Pt) (l : List AB) : (mskQ base c anc past l).length = l.length := by
 rcases Nat.lt_trichotomy (mskQ base c anc past l).length l.length with q | q | q
 ·have := zh3 base c anc past l (mskQ base c anc past l).length
  rw [List.getElem?_eq_none (Nat.le_refl _), List.getElem?_eq_getElem q] at this
  cases this
 ·exact q
 ·have := zh3 base c anc past l l.length
  rw [List.getElem?_eq_none (Nat.le_refl _), List.getElem?_eq_getElem q] at this
  cases this
theorem KWV (L : List AB) (k : Nat) : ownC L k = match L[k]? with
  | some (.blk _ _ xs) => some xs
  | _ => none := by rw [← JYE]; rfl
theorem qCv {base c anc : Nat} {past : List Pt} {k : Nat} (hv : vis base c anc past k = true) : ownC (mskQ base c anc past l) k = ownC l k := by
 rw [KWV, KWV, zh3]
 cases l[k]? with
 | none => rfl
 | some B => simp only [Option.map_some, hv, if_true]; cases B <;> rfl
theorem qKw {base c anc : Nat} {past : List Pt} {k : Nat} (hv : vis base c anc past k = true) : bxL (mskQ base c anc past l) k = bxL l k := by
 rw [← Xy8, ← Xy8]
 unfold bxS
 rw [zh3]
 cases l[k]? with
 | none => rfl
 | some B =>
  simp only [Option.map_some, hv, if_true]
  cases B with
  | blk fl m xs => cases fl <;> (cases xs with | nil => rfl | cons a t => cases t <;> rfl)
  | _ => rfl
theorem qp7 (x : List α) : ∀ (L : List AB) (k : Nat), ownR r x L k ↔ ∃ m, L[k]? = some (resB r m x)
 | [], k => by simp [ownR]
 | B :: L, 0 => by simp [ownR]
 | B :: L, k + 1 => by simpa [ownR] using qp7 x L k
theorem zHW {base c anc : Nat} {past : List Pt} {k : Nat} (x : List α) (hv : vis base c anc past k = true) (hr : ownR r x l k) : ownR r x (mskQ base c anc past l) k = True := by
 refine eq_true ?_
 rw [qp7] at hr ⊢
 obtain ⟨m, e⟩ := hr
 exact ⟨false, by rw [zh3, e, Option.map_some, if_pos hv, ZHo]⟩
theorem Zf1 (hz : h.map AB.freeze = h) (c anc n : Nat) (past : List Pt) (l : List AB) (hn : n = h.length + l.length) : zzT (seen (h.length + c) anc past n) [] 0 (h ++ l) = h ++ mskQ h.length c anc past l := qFZ hz c anc n past [] l hn rfl
theorem QwP (hz : h.map AB.freeze = h) (anc n : Nat) (past : List Pt) (l : List AB) (hn : n = h.length + l.length) : zzT (seen h.length anc past n) [] 0 (h ++ l) = h ++ mskQ h.length 0 anc past l := qFZ hz 0 anc n past [] l hn rfl
theorem X9l (hz : h.map AB.freeze = h) (c anc n : Nat) (past : List Pt) (w0 : Nat) (ws : List Nat) (l : List AB) (hn : n = h.length + l.length) (hw : ((w0 :: ws).all fun id => decide (h.length ≤ id)) = true) : zzT (seen (h.length + c) anc past n) (w0 :: ws) 0 (h ++ l) = h ++ mskL h.length c anc past (w0 :: ws) 0 l := qFZ hz c anc n past (w0 :: ws) l hn hw
theorem Jor (G x l : List AB) (hG : G.length = l.length) : ZcD [] (h ++ (G ++ x)) 0 (h ++ l) = h ++ (l ++ x) := by
 rw [XRY [] (G ++ x) l rfl]
 congr 1
 refine List.ext_getElem? fun j => ?_
 rw [Jy1]
 by_cases hj : j < l.length
 ·rw [if_pos hj, if_neg (by simp), List.getElem?_append_left hj]
 ·rw [if_neg hj, List.getElem?_append_right (by omega), List.getElem?_append_right (by omega), hG]
def qP (anc : Nat) : List Pt → Nat → Bool
 | [], _ => false
 | ⟨k, lo, hi, _, _⟩ :: l, id => if lo ≤ id ∧ id < hi then (if anc / 2 ^ k % 2 = 1 then true else qP anc l id) else qP anc l id
theorem zxu (anc id : Nat) : qP anc [] id = false := _root_.id rfl
theorem JYT (anc k lo hi : Nat) (rs ws : List Nat) (l : List Pt) (id : Nat) : qP anc (⟨k, lo, hi, rs, ws⟩ :: l) id = if lo ≤ id ∧ id < hi then (if anc / 2 ^ k % 2 = 1 then true else qP anc l id) else qP anc l id := _root_.id rfl
theorem qCi (anc id : Nat) : ∀ past : List Pt, qP anc past id = past.any fun p => bit p.k anc && decide (p.lo ≤ id) && decide (id < p.hi)
 | [] => rfl
 | ⟨k, lo, hi, rs, ws⟩ :: l => by
  rw [JYT, List.any_cons, qCi anc id l, JS9]
  by_cases h1 : lo ≤ id <;> by_cases h2 : id < hi <;> by_cases h3 : anc / 2 ^ k % 2 = 1 <;> simp [h1, h2, h3]
theorem z1J (len0 lo hi anc : Nat) (past : List Pt) (id : Nat) : qOk len0 lo hi anc past id = if id < len0 then true else if lo ≤ id ∧ id < hi then true else qP anc past id := by
 rw [qtW, qCi]
 by_cases h1 : id < len0 <;> by_cases h2 : lo ≤ id <;> by_cases h3 : id < hi <;> simp [h1, h2, h3]
theorem JCr (base c anc : Nat) (past : List Pt) (k : Nat) : vis base c anc past k = if k < c then true else qP anc past (base + k) := by
 unfold vis
 rw [qCi]
 by_cases h1 : k < c <;> simp [h1]
def sepA (anc lo hi : Nat) : List Pt → Bool
 | [] => true
 | ⟨k, lo', hi', _, _⟩ :: l => if hi' ≤ lo ∨ hi ≤ lo' then sepA anc lo hi l else if anc / 2 ^ k % 2 = 1 then false else sepA anc lo hi l
theorem JCX (anc lo hi : Nat) : sepA anc lo hi [] = true := _root_.id rfl
theorem Qmk (anc lo hi k lo' hi' : Nat) (rs ws : List Nat) (l : List Pt) : sepA anc lo hi (⟨k, lo', hi', rs, ws⟩ :: l) = if hi' ≤ lo ∨ hi ≤ lo' then sepA anc lo hi l else if anc / 2 ^ k % 2 = 1 then false else sepA anc lo hi l := _root_.id rfl
theorem Jce (anc lo hi : Nat) : ∀ past : List Pt, sepA anc lo hi past = past.all fun p' => !bit p'.k anc || decide (p'.hi ≤ lo) || decide (hi ≤ p'.lo)
 | [] => rfl
 | ⟨k, lo', hi', rs, ws⟩ :: l => by
  rw [Qmk, List.all_cons, Jce anc lo hi l, JS9]
  by_cases h1 : hi' ≤ lo <;> by_cases h2 : hi ≤ lo' <;> by_cases h3 : anc / 2 ^ k % 2 = 1 <;> simp [h1, h2, h3]
def indA (len0 anc : Nat) (past0 : List Pt) (ws0 : List Nat) : List Pt → Bool
 | [] => true
 | ⟨k, lo, hi, rs, ws⟩ :: l => if anc / 2 ^ k % 2 = 1 then indA len0 anc past0 ws0 l else
   if (ws.all fun id => !qOk len0 0 0 anc past0 id) = true then
    if hi ≤ lo ∨ (len0 ≤ lo ∧ sepA anc lo hi past0 = true) then
     if (ws0.all fun id => !KQw ⟨k, lo, hi, rs, ws⟩ id && !memN id (rs ++ ws)) = true then indA len0 anc past0 ws0 l else false
    else false
   else false
theorem XPo (len0 anc : Nat) (past0 : List Pt) (ws0 : List Nat) : indA len0 anc past0 ws0 [] = true := _root_.id rfl
theorem Qmm (len0 anc : Nat) (past0 : List Pt) (ws0 : List Nat) (k lo hi : Nat) (rs ws : List Nat) (l : List Pt) : indA len0 anc past0 ws0 (⟨k, lo, hi, rs, ws⟩ :: l) = if anc / 2 ^ k % 2 = 1 then indA len0 anc past0 ws0 l else
      if (ws.all fun id => !qOk len0 0 0 anc past0 id) = true then
        if hi ≤ lo ∨ (len0 ≤ lo ∧ sepA anc lo hi past0 = true) then
          if (ws0.all fun id => !KQw ⟨k, lo, hi, rs, ws⟩ id && !memN id (rs ++ ws)) = true then indA len0 anc past0 ws0 l else false
        else false
      else false := _root_.id rfl
theorem Khu (len0 anc : Nat) (past0 : List Pt) (ws0 : List Nat) : ∀ past : List Pt, past.all (X6r len0 anc past0 ws0) = indA len0 anc past0 ws0 past
 | [] => rfl
 | ⟨k, lo, hi, rs, ws⟩ :: l => by
  rw [Qmm, List.all_cons, Khu len0 anc past0 ws0 l, qjm, Jce, JS9]
  by_cases h1 : anc / 2 ^ k % 2 = 1
  ·simp [h1]
  ·simp only [h1, decide_false, Bool.false_or, if_false]
   generalize (ws.all fun id => !qOk len0 0 0 anc past0 id) = a
   generalize (past0.all fun p' => !bit p'.k anc || decide (p'.hi ≤ lo) || decide (hi ≤ p'.lo)) = b
   generalize (ws0.all fun id => !KQw ⟨k, lo, hi, rs, ws⟩ id && !memN id (rs ++ ws)) = e
   by_cases h2 : hi ≤ lo <;> by_cases h3 : len0 ≤ lo <;> cases a <;> cases b <;> cases e <;> simp [h2, h3]
variable {c : Ctx} {k : List IT} {fr : List AV} {len0 n anc : Nat} {past : List Pt} {d : Option Nat} {ops : List DOp}
theorem ZkK (w0 : Nat) (ws : List Nat) (vs : List AV) (v : AV) (G : List AB) : W c (.dmk (w0 :: ws) vs (some (v, G)) len0 n anc past d ops :: k) fr h = (okL (fun i => decide (i < h.length)) vs = true ∧ HOk h ∧ indA len0 anc past (w0 :: ws) past = true ∧ ((w0 :: ws).all fun id => decide (id < h.length)) = true ∧ h.length ≤ G.length ∧ v.ok (qOk len0 h.length G.length anc past) = true ∧
      ((w0 :: ws).all fun id => (G.getD id .dead).ok (qOk len0 h.length G.length anc past)) = true ∧ ((G.drop h.length).all fun B => B.ok (qOk len0 h.length G.length anc past)) = true ∧
      W c (.drw len0 (n + 1) (⟨n, h.length, G.length, seen len0 anc (QDy past) h.length, w0 :: ws⟩ :: past) ops :: k) (put fr d v) (ZcD (w0 :: ws) G 0 h)) := by
  rw [← Khu]
  exact Xjh (w0 :: ws) vs v G
theorem YrV (vs : List AV) (v : AV) (c0 anc' : Nat) (past' : List Pt) (x : List AB) : W c (.dmk [] vs (some (v, h ++ (mskQ h.length c0 anc' past' l ++ x))) len0 n anc past d ops :: k) fr (h ++ l) = (okL (fun i => decide (i < h.length + l.length)) vs = true ∧ HOk (h ++ l) ∧ indA len0 anc past [] past = true ∧ v.ok (qOk len0 (h.length + l.length) (h.length + (l.length + x.length)) anc past) = true ∧
      (x.all fun B => B.ok (qOk len0 (h.length + l.length) (h.length + (l.length + x.length)) anc past)) = true ∧
      W c (.drw len0 (n + 1) (⟨n, h.length + l.length, h.length + (l.length + x.length), seen len0 anc (QDy past) (h.length + l.length), []⟩ :: past) ops :: k) (put fr d v) (h ++ (l ++ x))) := by
  rw [← Khu, Xjh, Jor _ _ _ (qu0 _ _ _ _ _)]
  have e1 : (h ++ l).length = h.length + l.length := List.length_append
  have e2 : (h ++ (mskQ h.length c0 anc' past' l ++ x)).length = h.length + (l.length + x.length) := by rw [List.length_append, List.length_append, qu0]
  have e3 : (h ++ (mskQ h.length c0 anc' past' l ++ x)).drop (h ++ l).length = x := by
    rw [e1, qEs, List.drop_append_of_le_length (by rw [qu0]; exact Nat.le_refl _), List.drop_eq_nil_of_le (by rw [qu0]; exact Nat.le_refl _), List.nil_append]
  rw [e3, e2, e1]
  have e4 : (h.length + l.length ≤ h.length + (l.length + x.length)) = True := eq_true (by omega)
  simp only [List.all_nil, e4, true_and]
theorem qyz (vs : List AV) (v : AV) (c0 anc' : Nat) (past' : List Pt) : W c (.dmk [] vs (some (v, h ++ mskQ h.length c0 anc' past' l)) len0 n anc past d ops :: k) fr (h ++ l) = (okL (fun i => decide (i < h.length + l.length)) vs = true ∧ HOk (h ++ l) ∧ indA len0 anc past [] past = true ∧ v.ok (qOk len0 (h.length + l.length) (h.length + l.length) anc past) = true ∧
      W c (.drw len0 (n + 1) (⟨n, h.length + l.length, h.length + l.length, seen len0 anc (QDy past) (h.length + l.length), []⟩ :: past) ops :: k) (put fr d v) (h ++ l)) := by
  have := YrV (c := c) (k := k) (fr := fr) (len0 := len0) (n := n) (anc := anc) (past := past) (d := d) (ops := ops) (h := h) (l := l) vs v c0 anc' past' []
  simpa only [List.append_nil, List.length_nil, Nat.add_zero, List.all_nil, true_and] using this
theorem Qkq (v : AV) (h' : List AB) (x : AV) : W c (.dld (some (v, h')) x len0 n anc past d ops :: k) fr h = (indA len0 anc past [] past = true ∧ x.ok (qOk len0 0 0 anc past) = true ∧ v.ok (qOk len0 0 0 anc past) = true ∧ W c (.drw len0 (n + 1) (⟨n, 0, 0, idOf x, []⟩ :: past) ops :: k) (put fr d v) h) := by
 rw [← Khu]
 exact QYS v h' x
theorem qHz {n : Nat} (h : n ≤ 1000000) : (n ≤ maxLen) = True := eq_true (by unfold maxLen; omega)
theorem YyU {α : Type} (f : α → Bool) : [].all f = true := _root_.id rfl
end
def YOR := (And.intro (And.intro (And.intro (And.intro (And.intro (And.intro (And.intro @ZDl @JvH) (And.intro @YsE @KWa)) (And.intro (And.intro @zbt @Xsb) (And.intro @qxu (And.intro @K5f @ZoJ)))) (And.intro (And.intro (And.intro @zUM @KPF) (And.intro @qtd (And.intro @XqZ @QkD))) (And.intro (And.intro @Yar @K20) (And.intro @KkG (And.intro @Y8v @Qkq))))) (And.intro (And.intro (And.intro (And.intro @Y15 @qyh) (And.intro @qov @YcO)) (And.intro (And.intro @zeC @q8Q) (And.intro @XXa (And.intro @KDc @Kak)))) (And.intro (And.intro (And.intro @Jwn @QtX) (And.intro @q2g (And.intro @Jmv @JEZ))) (And.intro (And.intro @qP5 @zXS) (And.intro @ZO9 (And.intro @zrR @Yvc)))))) (And.intro (And.intro (And.intro (And.intro (And.intro @zXK @QUN) (And.intro @JrO @qGe)) (And.intro (And.intro @zNP @Kzb) (And.intro @KOe (And.intro @QGw @J1i)))) (And.intro (And.intro (And.intro @YOI @QGi) (And.intro @ZrK (And.intro @qX6 @ZoY))) (And.intro (And.intro @Yn1 @X6a) (And.intro @Jdn (And.intro @QIb @zS9))))) (And.intro (And.intro (And.intro (And.intro @ZMJ @KWc) (And.intro @zdk @Q6i)) (And.intro (And.intro @ZdO @Yub) (And.intro @X0v (And.intro @JV3 @Ziw)))) (And.intro (And.intro (And.intro @Qgg @ZhF) (And.intro @zUv (And.intro @ZZc @YFO))) (And.intro (And.intro @J9z @XFl) (And.intro @XcS (And.intro @ZS9 @zsq))))))) (And.intro (And.intro (And.intro (And.intro (And.intro (And.intro @qnC @ok_i) (And.intro @ok_b @ok_s)) (And.intro (And.intro @JoB @Yrf) (And.intro @ZnL (And.intro @ok_p @ok_y)))) (And.intro (And.intro (And.intro @zb1 @ok_f) (And.intro @J9P (And.intro @zEu @XSf))) (And.intro (And.intro @Xto @qR6) (And.intro @JVG (And.intro @YjO @KHd))))) (And.intro (And.intro (And.intro (And.intro @qt2 @JiG) (And.intro @Yzz @K4d)) (And.intro (And.intro @any_cons @KUm) (And.intro @qnz (And.intro @Jak @Xiy)))) (And.intro (And.intro (And.intro @zhr @Ks2) (And.intro @zBV (And.intro @KaE @Xn7))) (And.intro (And.intro @qr3 @Tab.ws_nil) (And.intro @Tab.ws_cons (And.intro @decide_true @decide_false)))))) (And.intro (And.intro (And.intro (And.intro (And.intro @Bool.or_true @Bool.or_false) (And.intro @Bool.true_or @Bool.false_or)) (And.intro (And.intro @Bool.not_true @Bool.not_false) (And.intro @KHY (And.intro @Y9K @Ki0)))) (And.intro (And.intro (And.intro @JVd @zLh) (And.intro @zk5 (And.intro @qIX @YLi))) (And.intro (And.intro @X9s @Ju5) (And.intro @ZkK (And.intro @YrV @qyz))))) (And.intro (And.intro (And.intro (And.intro @qCv @qKw) (And.intro @zHW (And.intro @qu0 @JCr))) (And.intro (And.intro @zxu @JYT) (And.intro @z1J (And.intro @JCX @Qmk)))) (And.intro (And.intro (And.intro @XPo @Qmm) (And.intro @and_self (And.intro @false_and @and_false))) (And.intro (And.intro @or_true @true_or) (And.intro @false_or (And.intro @or_false @qHz))))))))
end Go.Proofs.YtcncpbcbedfakaaGreat
end
section
namespace Go.Proofs.YtcncpbcbedfakaaGreat
structure Dg where
 l : List UInt8
 h : l.length = 32
deriving DecidableEq
def u8A (b : UInt8) : AV := .i .u8 (b.toNat : Int)
theorem JPk {a b : UInt8} (e : u8A a = u8A b) : a = b := by
 unfold u8A at e
 have e2 : (a.toNat : Int) = (b.toNat : Int) := by
  injection e
 exact UInt8.toNat.inj (by omega)
theorem KFB {α β : Type} {f : α → β} (hf : ∀ a b, f a = f b → a = b) : ∀ {l l' : List α}, l.map f = l'.map f → l = l'
 | [], [], _ => rfl
 | [], _ :: _, e => by simp at e
 | _ :: _, [], e => by simp at e
 | a :: l, b :: l', e => by
  simp only [List.map_cons, List.cons.injEq] at e
  rw [hf a b e.1, KFB hf e.2]
theorem Dg.ext {a b : Dg} (e : a.l = b.l) : a = b := by
 cases a; cases b
 cases e
 rfl
def ZxU : Dg := ⟨List.replicate 32 0, by simp⟩
def idR : Row Dg := ⟨fun x => x.l.map u8A, 32, fun x => by rw [List.length_map]; exact x.h, by decide, ZxU, fun x y e => Dg.ext (KFB (fun a b => JPk) e)⟩
abbrev Hd := (Int × Int) × Dg
def Qv2 : Row Hd := ⟨fun x => [.i .i64 x.1.1, .i .i64 x.1.2] ++ idR.f x.2, 34, fun x => by rw [List.length_append, idR.len]; rfl, by decide, ((0, 0), ZxU), fun x y e => by
 simp only [List.cons_append, List.nil_append, List.cons.injEq, AV.i.injEq, true_and] at e
 exact Prod.ext (Prod.ext e.1 e.2.1) (idR.inj _ _ e.2.2)⟩
theorem qYM : idR.sz = 32 := _root_.id rfl
theorem J7X : Qv2.sz = 34 := _root_.id rfl
theorem Xjz (x : Hd) : Qv2.f x = .i .i64 x.1.1 :: .i .i64 x.1.2 :: idR.f x.2 := _root_.id rfl
theorem YRz (x : Hd) : ((Qv2.f x).drop 0).take 2 = dotR.f x.1 := by rw [Xjz, X5J]; rfl
theorem Zpc (x : Hd) : ((Qv2.f x).drop 2).take 32 = idR.f x.2 := by
 rw [Xjz]
 simp only [List.drop_succ_cons, List.drop_zero]
 exact List.take_of_length_le (by rw [idR.len]; exact Nat.le_refl _)
theorem eqcB : ∀ (l l' : List UInt8), l.length = l'.length → Kon (List.replicate l.length .i) (l.map u8A) (l'.map u8A) = some (decide (l = l'))
 | [], [], _ => by simp [Kon]
 | [], _ :: _, e => by simp at e
 | _ :: _, [], e => by simp at e
 | a :: l, b :: l', e => by
  simp only [List.length_cons, List.replicate_succ, List.map_cons, Kon, u8A, zXn, if_true, Option.bind_some]
  have ih := eqcB l l' (by simpa using e)
  rw [ih, Option.map_some]
  congr 1
  have h1 : ((a.toNat : Int) == (b.toNat : Int)) = decide (a = b) := by
   rw [Bool.eq_iff_iff]
   simp only [beq_iff_eq, decide_eq_true_eq]
   exact ⟨fun q => UInt8.toNat.inj (by omega), fun q => by rw [q]⟩
  rw [h1, Bool.eq_iff_iff]
  simp
theorem Y6p (a b : Dg) : Kon [.i, .i, .i, .i, .i, .i, .i, .i, .i, .i, .i, .i, .i, .i, .i, .i, .i, .i, .i, .i, .i, .i, .i, .i, .i, .i, .i, .i, .i, .i, .i, .i] (idR.f a) (idR.f b) = some (decide (a = b)) := by
 have := eqcB a.l b.l (a.h.trans b.h.symm)
 rw [a.h] at this
 refine (show Kon [.i, .i, .i, .i, .i, .i, .i, .i, .i, .i, .i, .i, .i, .i, .i, .i, .i, .i, .i, .i, .i, .i, .i, .i, .i, .i, .i, .i, .i, .i, .i, .i] (idR.f a) (idR.f b) = some (decide (a.l = b.l)) from this).trans ?_
 congr 1
 exact decide_eq_decide.2 ⟨Dg.ext, fun q => by rw [q]⟩
theorem Xjy (a b : Hd) : Kon [.i, .i, .i, .i, .i, .i, .i, .i, .i, .i, .i, .i, .i, .i, .i, .i, .i, .i, .i, .i, .i, .i, .i, .i, .i, .i, .i, .i, .i, .i, .i, .i, .i, .i] (Qv2.f a) (Qv2.f b) = some (decide (a = b)) := by
 have h1 := Y6p a.2 b.2
 have h2 : Kon [.i, .i, .i, .i, .i, .i, .i, .i, .i, .i, .i, .i, .i, .i, .i, .i, .i, .i, .i, .i, .i, .i, .i, .i, .i, .i, .i, .i, .i, .i, .i, .i, .i, .i] (Qv2.f a) (Qv2.f b) = ((zXn .i (.i .i64 a.1.1) (.i .i64 b.1.1)).bind fun r => (((zXn .i (.i .i64 a.1.2) (.i .i64 b.1.2)).bind fun r => (Kon [.i, .i, .i, .i, .i, .i, .i, .i, .i, .i, .i, .i, .i, .i, .i, .i, .i, .i, .i, .i, .i, .i, .i, .i, .i, .i, .i, .i, .i, .i, .i, .i] (idR.f a.2) (idR.f b.2)).map (r && ·))).map (r && ·)) := rfl
 rw [h2, h1]
 simp only [zXn, if_true, Option.bind_some, Option.map_some, Option.some.injEq]
 rw [Bool.eq_iff_iff]
 simp only [Bool.and_eq_true, beq_iff_eq, decide_eq_true_eq]
 constructor
 ·rintro ⟨q1, q2, q3⟩
  exact Prod.ext (Prod.ext q1 q2) q3
 ·rintro rfl
  exact ⟨rfl, rfl, rfl⟩
theorem JTJ (q : Nat → Bool) : ∀ l : List UInt8, okL q (l.map u8A) = true
 | [] => by simp [okL]
 | a :: l => by simp [okL, u8A, AV.ok, JTJ q l]
theorem Jmb (q : Nat → Bool) (d : Dg) : okL q (idR.f d) = true := JTJ q d.l
theorem YiS (q : Nat → Bool) (d : Hd) : okL q (Qv2.f d) = true := by rw [Xjz, Xto, Xto, ok_i, ok_i, Jmb]; rfl
theorem Quh : ∀ l : List UInt8, (l.map u8A).all (wrOk true) = true
 | [] => rfl
 | a :: l => by rw [List.map_cons, List.all_cons, Quh l]; rfl
theorem XRx (d : Dg) : (idR.f d).all (wrOk true) = true := Quh d.l
theorem zqp (d : Hd) : (Qv2.f d).all (wrOk true) = true := by rw [Xjz, List.all_cons, List.all_cons, XRx]; rfl
theorem QBe {α : Type} {r : Row α} (h : ∀ d, (r.f d).all (wrOk true) = true) : ∀ l : List α, (r.cells l).all (wrOk true) = true
 | [] => rfl
 | d :: l => by
  have := QBe h l
  simp only [Row.cells, List.flatMap_cons, List.all_append, h d, Bool.true_and] at this ⊢
  exact this
theorem Yom (l : List Hd) : (Qv2.cells l).all (wrOk true) = true := QBe zqp l
theorem q79 (x : Dg) : ∀ a ∈ idR.f x, a.fl = true := fun a ha => by
 obtain ⟨b, _, rfl⟩ := List.mem_map.1 (show a ∈ x.l.map u8A from ha)
 rfl
theorem XwS (x : Hd) : ∀ a ∈ Qv2.f x, a.fl = true := fun a ha => by
 rw [Xjz] at ha
 rcases List.mem_cons.1 ha with rfl | ha
 ·rfl
 ·rcases List.mem_cons.1 ha with rfl | ha
  ·rfl
  ·exact q79 _ a ha
end Go.Proofs.YtcncpbcbedfakaaGreat
end
section
namespace Go.Proofs.YtcncpbcbedfakaaGreat
open Go.ChangeShapes Go.WideShapes Go.ChangeAt Go.RowKit
section
variable {H : Type} {enc : TypeId × Value → H} {w : World} {base : Nat} {held : Bool}
theorem YSK {fuel : Nat} {cs : List Value} {x : DataW H × List MemPlace} (h : DataW.trod enc Tryz.prog w base (fun _ => true) held fuel 40 cs = some x) : ∃ i : Dg, cs = (idR.f i).map AV.val := by
 cases fuel with
 | zero => cases h
 | succ fuel =>
  obtain ⟨hl, he⟩ := Ymq Tryz.underlying40 h
  have hl2 : cs.length = 32 := hl.trans (by kernel_rfl)
  have h1 : Tryz.prog.cellsOf 5 = 1 := by kernel_rfl
  obtain ⟨d, hd, hdt⟩ := Ynl (fun i (c : UInt8) => cs[i]? = some (.int .u8 (c.toNat : Int))) 32 fun i hi => by
   obtain ⟨y, hy⟩ := he i hi
   rw [h1] at hy
   obtain ⟨n, hn, hw⟩ := K2q Tryz.underlying5 hy
   refine ⟨UInt8.ofInt n, ?_⟩
   have e : ((cs.drop (i * 1)).take 1)[0]? = some (.int .u8 n) := by rw [hn]; rfl
   rw [List.getElem?_take_of_lt (by omega), List.getElem?_drop, JNw hw] at e
   simpa using e
  refine ⟨⟨d, hd⟩, ?_⟩
  apply List.ext_getElem?
  intro i
  show cs[i]? = ((d.map u8A).map AV.val)[i]?
  rw [List.map_map]
  by_cases hi : i < 32
  ·rw [List.getElem?_map, List.getElem?_eq_getElem (by omega : i < d.length), Option.map_some, hdt i _ (List.getElem?_eq_getElem (by omega : i < d.length))]
   rfl
  ·rw [List.getElem?_eq_none (by omega), List.getElem?_eq_none (by rw [List.length_map]; omega)]
theorem YnT {v : Value} {l : List Value} (e : v.cells.toList = l) (h : l.length ≠ 1) : v = .agg l.toArray := by
 subst e
 cases v <;> first | (simp [Value.cells] at h; done) | (simp [Value.cells])
theorem zeB {fuel : Nat} {cs : List Value} {x : DataW H × List MemPlace} (h : DataW.trod enc Tryz.prog w base (fun _ => true) held fuel 54 cs = some x) : ∃ i : Hd, cs = (Qv2.f i).map AV.val := by
 cases fuel with
 | zero => cases h
 | succ fuel =>
  obtain ⟨hl, he⟩ := J3V Tryz.underlying54 h
  have hl2 : cs.length = 34 := hl.trans (by kernel_rfl)
  simp only [List.forall_mem_cons] at he
  obtain ⟨⟨y0, h0⟩, ⟨y1, h1⟩, _⟩ := he
  rw [(by kernel_rfl : Tryz.prog.cellsOf 38 = 2)] at h0
  rw [(by kernel_rfl : Tryz.prog.cellsOf 40 = 32)] at h1
  obtain ⟨r, n, e0, _, _⟩ := Yne h0
  obtain ⟨i, e1⟩ := YSK h1
  refine ⟨((r, n), i), ?_⟩
  have e0' : cs.take 2 = _ := e0
  have e1' : (cs.drop 2).take 32 = _ := e1
  have : cs = cs.take 2 ++ (cs.drop 2).take 32 := by
   have q : (cs.drop 2).take 32 = cs.drop 2 := List.take_of_length_le (by rw [List.length_drop]; omega)
   rw [q, List.take_append_drop]
  rw [this, e0', e1', Xjz]
  rfl
theorem KMU {fuel : Nat} {cs : List Value} {x : DataW H × List MemPlace} (h : DataW.trod enc Tryz.prog w base (fun _ => true) held fuel 22 cs = some x) : ∃ v, cs = [v] ∧ ∃ xs : List Hd, Sl w v xs.length ((Qv2.cells xs).map AV.val) := by
 obtain ⟨v, h1, ts, h2⟩ := ZPB (fun _ cs (c : Hd) => cs = (Qv2.f c).map AV.val) Tryz.underlying22 (size := 34) (by kernel_rfl) (by decide) (fun fuel cs x hx => zeB hx) h
 exact ⟨v, h1, ts, RdL.row (r := Qv2) h2⟩
theorem zZM {α : Type} {l : List α} (h : l.length = 3) : ∃ a b c, l = [a, b, c] := by
 match l, h with
 | [a, b, c], _ => exact ⟨a, b, c, rfl⟩
theorem qZE {fuel : Nat} {cs : List Value} {x : DataW H × List MemPlace} (h : DataW.trod enc Tryz.prog w base (fun _ => true) held fuel 28 cs = some x) :
  ∃ l v d, cs = [l, v, d] ∧ (∃ hs : List Hd, Sl w l hs.length ((Qv2.cells hs).map AV.val)) ∧ (∃ xs : List Int, Sl w v xs.length ((intR.cells xs).map AV.val)) ∧ ∃ ds : List (Int × Int), Sl w d ds.length ((dotR.cells ds).map AV.val) := by
 cases fuel with
 | zero => cases h
 | succ fuel =>
  obtain ⟨hl, he⟩ := J3V Tryz.underlying28 h
  have hl2 : cs.length = 3 := hl.trans (by kernel_rfl)
  simp only [List.forall_mem_cons] at he
  obtain ⟨⟨y0, h0⟩, ⟨y1, h1⟩, _⟩ := he
  rw [(by kernel_rfl : Tryz.prog.cellsOf 22 = 1)] at h0
  rw [(by kernel_rfl : Tryz.prog.cellsOf 26 = 2)] at h1
  obtain ⟨l, e0, s0⟩ := KMU h0
  obtain ⟨v, d, e1, s1, s2⟩ := qpq h1
  obtain ⟨a, b, c, rfl⟩ := zZM hl2
  have e0' : [a] = _ := e0
  have e1' : [b, c] = _ := e1
  cases e0'
  cases e1'
  exact ⟨_, _, _, rfl, s0, s1, s2⟩
end
end Go.Proofs.YtcncpbcbedfakaaGreat
end
