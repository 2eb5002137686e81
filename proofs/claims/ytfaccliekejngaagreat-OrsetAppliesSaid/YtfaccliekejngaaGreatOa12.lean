/- Part 12 of what the laws' proofs rest on. No condition. -/
import Derived.Test.YtfaccliekejngaaGreatProg
import Derived.Test.YtfaccliekejngaaGreatOa11
set_option linter.all false
section
namespace Go.Proofs.YtfaccliekejngaaGreat
open Go.ChangeShapes Go.WideShapes Go.ChangeAt Go.RowKit
section
variable {K : Code → CC → Prop} {ρ : Mp} {h : List AB} {w : World}
theorem In.hz (i : In K ρ h w) : h.map AB.freeze = h := by
 refine List.ext_getElem? fun j => ?_
 rw [List.getElem?_map]
 cases e : h[j]? with
 | none => rfl
 | some B =>
  have := i.frz B (List.mem_of_getElem? e)
  rw [Option.map_some]
  congr 1
  cases B <;> first | rfl | (cases this; done) | (simp only [AB.mut] at this; subst this; rfl)
theorem In.sl {α : Type} {r : Row α} (i : In K ρ h w) (hfl : ∀ x, ∀ a ∈ r.f x, a.fl = true) {v : Value} {l : List α} (hs : Sl w v l.length ((r.cells l).map AV.val)) :
  ∃ x s B, In K (ρ ++ [x]) (h ++ [B]) w ∧ VR (ρ ++ [x]) s v ∧ Rd r (h ++ [B]) s l ∧ Ext ρ (ρ ++ [x]) ∧ s.capOk = true := by
 obtain ⟨hl, x, i', vr⟩ := i.slice hfl hs
 exact ⟨x, _, _, i', vr, quw (by rw [List.getElem?_append_right (Nat.le_refl _), Nat.sub_self]; rfl) hl, Ext.push _ _, zwU _ _⟩
theorem RdL.row {α : Type} {r : Row α} {v : Value} {ts : List α} (e : RdL (fun _ cs x => cs = (r.f x).map AV.val) r.sz w v ts) : Sl w v ts.length ((r.cells ts).map AV.val) := by
 obtain ⟨cs, h1, h2, h3⟩ := e
 have hcs : cs = (r.cells ts).map AV.val := by
  apply List.ext_getElem?
  intro k
  by_cases hk : k < ts.length * r.sz
  ·have hi : k / r.sz < ts.length := (Nat.div_lt_iff_lt_mul r.pos).2 hk
   have hj := Nat.mod_lt k r.pos
   have ek : k = k / r.sz * r.sz + k % r.sz := by rw [Nat.mul_comm]; exact (Nat.div_add_mod k r.sz).symm
   have ht : ts[k / r.sz]? = some (ts.getD (k / r.sz) r.d) := by rw [List.getD_eq_getElem?_getD, List.getElem?_eq_getElem hi]; rfl
   have q := h3 _ _ ht
   have q1 : ((cs.drop (k / r.sz * r.sz)).take r.sz)[k % r.sz]? = ((r.f (ts.getD (k / r.sz) r.d)).map AV.val)[k % r.sz]? := by rw [q]
   rw [List.getElem?_take_of_lt hj, List.getElem?_drop, ← ek, List.getElem?_map, ← r.cells_get ts _ _ hi hj, ← ek] at q1
   rw [q1, List.getElem?_map]
  ·rw [List.getElem?_eq_none (by omega), List.getElem?_eq_none (by rw [List.length_map, r.cells_len]; omega)]
 rw [hcs] at h1
 exact h1
end
section
variable {H : Type} {enc : TypeId × Value → H} {w : World} {base : Nat} {held : Bool}
theorem YEL {α : Type} {l : List α} (h : l.length = 2) : ∃ a b, l = [a, b] := by
 match l, h with
 | [a, b], _ => exact ⟨a, b, rfl⟩
theorem zI1 {fuel : Nat} {cs : List Value} {x : DataW H × List MemPlace} (h : DataW.trod enc Tryz.prog w base (fun _ => true) held fuel 23 cs = some x) : ∃ v, cs = [v] ∧ ∃ xs : List Int, Sl w v xs.length ((intR.cells xs).map AV.val) := by
 obtain ⟨v, h1, ts, h2⟩ := Xcf (fun _ cs (c : Int) => cs = (intR.f c).map AV.val) Tryz.underlying23 (size := 1) (by kernel_rfl) (by decide) (fun fuel cs x hx => by
  obtain ⟨n, rfl, hw⟩ := zJP Tryz.underlying3 hx
  exact ⟨n, by rw [KH7]; rfl⟩) h
 exact ⟨v, h1, ts, RdL.row (r := intR) h2⟩
theorem Qzg {fuel : Nat} {cs : List Value} {x : DataW H × List MemPlace} (h : DataW.trod enc Tryz.prog w base (fun _ => true) held fuel 48 cs = some x) : ∃ r n, cs = [.int .i64 r, .int .i64 n] ∧ (-9223372036854775808 ≤ r ∧ r ≤ 9223372036854775807) ∧ (-9223372036854775808 ≤ n ∧ n ≤ 9223372036854775807) := by
 cases fuel with
 | zero => cases h
 | succ fuel =>
  obtain ⟨hl, he⟩ := JkW Tryz.underlying48 h
  have hl2 : cs.length = 2 := hl.trans (by kernel_rfl)
  simp only [List.forall_mem_cons] at he
  obtain ⟨⟨y0, h0⟩, ⟨y1, h1⟩, _⟩ := he
  rw [(by kernel_rfl : Tryz.prog.cellsOf 3 = 1)] at h0 h1
  obtain ⟨r, e0, w0⟩ := zJP Tryz.underlying3 h0
  obtain ⟨n, e1, w1⟩ := zJP Tryz.underlying3 h1
  obtain ⟨a, b, rfl⟩ := YEL hl2
  have e0' : [a] = _ := e0
  have e1' : [b] = _ := e1
  cases e0'
  cases e1'
  exact ⟨r, n, rfl, JTr w0, JTr w1⟩
theorem JOm {fuel : Nat} {cs : List Value} {x : DataW H × List MemPlace} (h : DataW.trod enc Tryz.prog w base (fun _ => true) held fuel 24 cs = some x) : ∃ v, cs = [v] ∧ ∃ xs : List (Int × Int), Sl w v xs.length ((dotR.cells xs).map AV.val) := by
 obtain ⟨v, h1, ts, h2⟩ := Xcf (fun _ cs (c : Int × Int) => cs = (dotR.f c).map AV.val) Tryz.underlying24 (size := 2) (by kernel_rfl) (by decide) (fun fuel cs x hx => by
  obtain ⟨r, n, rfl, _, _⟩ := Qzg hx
  exact ⟨(r, n), by rw [YKr]; rfl⟩) h
 exact ⟨v, h1, ts, RdL.row (r := dotR) h2⟩
theorem YBG {fuel : Nat} {cs : List Value} {x : DataW H × List MemPlace} (h : DataW.trod enc Tryz.prog w base (fun _ => true) held fuel 26 cs = some x) :
  ∃ v d, cs = [v, d] ∧ (∃ xs : List Int, Sl w v xs.length ((intR.cells xs).map AV.val)) ∧ ∃ ds : List (Int × Int), Sl w d ds.length ((dotR.cells ds).map AV.val) := by
 cases fuel with
 | zero => cases h
 | succ fuel =>
  obtain ⟨hl, he⟩ := JkW Tryz.underlying26 h
  have hl2 : cs.length = 2 := hl.trans (by kernel_rfl)
  simp only [List.forall_mem_cons] at he
  obtain ⟨⟨y0, h0⟩, ⟨y1, h1⟩, _⟩ := he
  rw [(by kernel_rfl : Tryz.prog.cellsOf 23 = 1)] at h0
  rw [(by kernel_rfl : Tryz.prog.cellsOf 24 = 1)] at h1
  obtain ⟨v, e0, s0⟩ := zI1 h0
  obtain ⟨d, e1, s1⟩ := JOm h1
  obtain ⟨a, b, rfl⟩ := YEL hl2
  have e0' : [a] = _ := e0
  have e1' : [b] = _ := e1
  cases e0'
  cases e1'
  exact ⟨_, _, rfl, s0, s1⟩
end
end Go.Proofs.YtfaccliekejngaaGreat
end
section
namespace Go.Proofs.YtfaccliekejngaaGreat
section
variable {α : Type} {r : Row α} {h l : List AB}
def mskQ (base c anc : Nat) (past : List Pt) (l : List AB) : List AB := mskL base c anc past [] 0 l
def vis (base c anc : Nat) (past : List Pt) (k : Nat) : Bool := decide (k < c) || past.any (fun p => bit p.k anc && decide (p.lo ≤ base + k) && decide (base + k < p.hi))
theorem Zpg (base c anc : Nat) (past : List Pt) (k : Nat) : qOk (base + c) 0 0 anc past (base + k) = vis base c anc past k := by
 rw [Y4Q]
 unfold vis
 have e1 : decide (base + k < base + c) = decide (k < c) := decide_eq_decide.2 (by omega)
 have e2 : decide (base + k < 0) = false := decide_eq_false (by omega)
 rw [e1, e2, Bool.and_false, Bool.or_false]
theorem QMp (base c anc : Nat) (past : List Pt) (l : List AB) (k : Nat) : (mskQ base c anc past l)[k]? = (l[k]?).map fun B => if vis base c anc past k = true then B.freeze else .dead := by
 unfold mskQ
 rw [ZHw, Nat.zero_add]
 congr 1
 funext B
 rw [Zpg]
 simp [Y2i]
theorem zLt (base c anc : Nat) (past : List Pt) (l : List AB) : (mskQ base c anc past l).length = l.length := by
 rcases Nat.lt_trichotomy (mskQ base c anc past l).length l.length with q | q | q
 ·have := QMp base c anc past l (mskQ base c anc past l).length
  rw [List.getElem?_eq_none (Nat.le_refl _), List.getElem?_eq_getElem q] at this
  cases this
 ·exact q
 ·have := QMp base c anc past l l.length
  rw [List.getElem?_eq_none (Nat.le_refl _), List.getElem?_eq_getElem q] at this
  cases this
theorem QCh (L : List AB) (k : Nat) : ownC L k = match L[k]? with
  | some (.blk _ _ xs) => some xs
  | _ => none := by rw [← XBr]; rfl
theorem qZc {base c anc : Nat} {past : List Pt} {k : Nat} (hv : vis base c anc past k = true) : ownC (mskQ base c anc past l) k = ownC l k := by
 rw [QCh, QCh, QMp]
 cases l[k]? with
 | none => rfl
 | some B => simp only [Option.map_some, hv, if_true]; cases B <;> rfl
theorem ZYA {base c anc : Nat} {past : List Pt} {k : Nat} (hv : vis base c anc past k = true) : bxL (mskQ base c anc past l) k = bxL l k := by
 rw [← QQ5, ← QQ5]
 unfold bxS
 rw [QMp]
 cases l[k]? with
 | none => rfl
 | some B =>
  simp only [Option.map_some, hv, if_true]
  cases B with
  | blk fl m xs => cases fl <;> (cases xs with | nil => rfl | cons a t => cases t <;> rfl)
  | _ => rfl
theorem zh8 (x : List α) : ∀ (L : List AB) (k : Nat), ownR r x L k ↔ ∃ m, L[k]? = some (resB r m x)
 | [], k => by simp [ownR]
 | B :: L, 0 => by simp [ownR]
 | B :: L, k + 1 => by simpa [ownR] using zh8 x L k
theorem XDH {base c anc : Nat} {past : List Pt} {k : Nat} (x : List α) (hv : vis base c anc past k = true) (hr : ownR r x l k) : ownR r x (mskQ base c anc past l) k = True := by
 refine eq_true ?_
 rw [zh8] at hr ⊢
 obtain ⟨m, e⟩ := hr
 exact ⟨false, by rw [QMp, e, Option.map_some, if_pos hv, qxM]⟩
theorem QLc (hz : h.map AB.freeze = h) (c anc n : Nat) (past : List Pt) (l : List AB) (hn : n = h.length + l.length) : KYR (seen (h.length + c) anc past n) [] 0 (h ++ l) = h ++ mskQ h.length c anc past l := Zkb hz c anc n past [] l hn rfl
theorem zkD (hz : h.map AB.freeze = h) (anc n : Nat) (past : List Pt) (l : List AB) (hn : n = h.length + l.length) : KYR (seen h.length anc past n) [] 0 (h ++ l) = h ++ mskQ h.length 0 anc past l := Zkb hz 0 anc n past [] l hn rfl
theorem QU9 (hz : h.map AB.freeze = h) (c anc n : Nat) (past : List Pt) (w0 : Nat) (ws : List Nat) (l : List AB) (hn : n = h.length + l.length) (hw : ((w0 :: ws).all fun id => decide (h.length ≤ id)) = true) : KYR (seen (h.length + c) anc past n) (w0 :: ws) 0 (h ++ l) = h ++ mskL h.length c anc past (w0 :: ws) 0 l := Zkb hz c anc n past (w0 :: ws) l hn hw
theorem Jvb (G x l : List AB) (hG : G.length = l.length) : JU5 [] (h ++ (G ++ x)) 0 (h ++ l) = h ++ (l ++ x) := by
 rw [ZCg [] (G ++ x) l rfl]
 congr 1
 refine List.ext_getElem? fun j => ?_
 rw [qwR]
 by_cases hj : j < l.length
 ·rw [if_pos hj, if_neg (by simp), List.getElem?_append_left hj]
 ·rw [if_neg hj, List.getElem?_append_right (by omega), List.getElem?_append_right (by omega), hG]
def qP (anc : Nat) : List Pt → Nat → Bool
 | [], _ => false
 | ⟨k, lo, hi, _, _⟩ :: l, id => if lo ≤ id ∧ id < hi then (if anc / 2 ^ k % 2 = 1 then true else qP anc l id) else qP anc l id
theorem Xbt (anc id : Nat) : qP anc [] id = false := _root_.id rfl
theorem ZvW (anc k lo hi : Nat) (rs ws : List Nat) (l : List Pt) (id : Nat) : qP anc (⟨k, lo, hi, rs, ws⟩ :: l) id = if lo ≤ id ∧ id < hi then (if anc / 2 ^ k % 2 = 1 then true else qP anc l id) else qP anc l id := _root_.id rfl
theorem qi6 (anc id : Nat) : ∀ past : List Pt, qP anc past id = past.any fun p => bit p.k anc && decide (p.lo ≤ id) && decide (id < p.hi)
 | [] => rfl
 | ⟨k, lo, hi, rs, ws⟩ :: l => by
  rw [ZvW, List.any_cons, qi6 anc id l, QvC]
  by_cases h1 : lo ≤ id <;> by_cases h2 : id < hi <;> by_cases h3 : anc / 2 ^ k % 2 = 1 <;> simp [h1, h2, h3]
theorem qyM (len0 lo hi anc : Nat) (past : List Pt) (id : Nat) : qOk len0 lo hi anc past id = if id < len0 then true else if lo ≤ id ∧ id < hi then true else qP anc past id := by
 rw [Y4Q, qi6]
 by_cases h1 : id < len0 <;> by_cases h2 : lo ≤ id <;> by_cases h3 : id < hi <;> simp [h1, h2, h3]
theorem JV2 (base c anc : Nat) (past : List Pt) (k : Nat) : vis base c anc past k = if k < c then true else qP anc past (base + k) := by
 unfold vis
 rw [qi6]
 by_cases h1 : k < c <;> simp [h1]
def sepA (anc lo hi : Nat) : List Pt → Bool
 | [] => true
 | ⟨k, lo', hi', _, _⟩ :: l => if hi' ≤ lo ∨ hi ≤ lo' then sepA anc lo hi l else if anc / 2 ^ k % 2 = 1 then false else sepA anc lo hi l
theorem Y34 (anc lo hi : Nat) : sepA anc lo hi [] = true := _root_.id rfl
theorem qFj (anc lo hi k lo' hi' : Nat) (rs ws : List Nat) (l : List Pt) : sepA anc lo hi (⟨k, lo', hi', rs, ws⟩ :: l) = if hi' ≤ lo ∨ hi ≤ lo' then sepA anc lo hi l else if anc / 2 ^ k % 2 = 1 then false else sepA anc lo hi l := _root_.id rfl
theorem Qs3 (anc lo hi : Nat) : ∀ past : List Pt, sepA anc lo hi past = past.all fun p' => !bit p'.k anc || decide (p'.hi ≤ lo) || decide (hi ≤ p'.lo)
 | [] => rfl
 | ⟨k, lo', hi', rs, ws⟩ :: l => by
  rw [qFj, List.all_cons, Qs3 anc lo hi l, QvC]
  by_cases h1 : hi' ≤ lo <;> by_cases h2 : hi ≤ lo' <;> by_cases h3 : anc / 2 ^ k % 2 = 1 <;> simp [h1, h2, h3]
def indA (len0 anc : Nat) (past0 : List Pt) (ws0 : List Nat) : List Pt → Bool
 | [] => true
 | ⟨k, lo, hi, rs, ws⟩ :: l => if anc / 2 ^ k % 2 = 1 then indA len0 anc past0 ws0 l else
   if (ws.all fun id => !qOk len0 0 0 anc past0 id) = true then
    if hi ≤ lo ∨ (len0 ≤ lo ∧ sepA anc lo hi past0 = true) then
     if (ws0.all fun id => !z5a ⟨k, lo, hi, rs, ws⟩ id && !memN id (rs ++ ws)) = true then indA len0 anc past0 ws0 l else false
    else false
   else false
theorem Yyj (len0 anc : Nat) (past0 : List Pt) (ws0 : List Nat) : indA len0 anc past0 ws0 [] = true := _root_.id rfl
theorem XM2 (len0 anc : Nat) (past0 : List Pt) (ws0 : List Nat) (k lo hi : Nat) (rs ws : List Nat) (l : List Pt) : indA len0 anc past0 ws0 (⟨k, lo, hi, rs, ws⟩ :: l) = if anc / 2 ^ k % 2 = 1 then indA len0 anc past0 ws0 l else
      if (ws.all fun id => !qOk len0 0 0 anc past0 id) = true then
        if hi ≤ lo ∨ (len0 ≤ lo ∧ sepA anc lo hi past0 = true) then
          if (ws0.all fun id => !z5a ⟨k, lo, hi, rs, ws⟩ id && !memN id (rs ++ ws)) = true then indA len0 anc past0 ws0 l else false
        else false
      else false := _root_.id rfl
theorem zAp (len0 anc : Nat) (past0 : List Pt) (ws0 : List Nat) : ∀ past : List Pt, past.all (XbF len0 anc past0 ws0) = indA len0 anc past0 ws0 past
 | [] => rfl
 | ⟨k, lo, hi, rs, ws⟩ :: l => by
  rw [XM2, List.all_cons, zAp len0 anc past0 ws0 l, Y5I, Qs3, QvC]
  by_cases h1 : anc / 2 ^ k % 2 = 1
  ·simp [h1]
  ·simp only [h1, decide_false, Bool.false_or, if_false]
   generalize (ws.all fun id => !qOk len0 0 0 anc past0 id) = a
   generalize (past0.all fun p' => !bit p'.k anc || decide (p'.hi ≤ lo) || decide (hi ≤ p'.lo)) = b
   generalize (ws0.all fun id => !z5a ⟨k, lo, hi, rs, ws⟩ id && !memN id (rs ++ ws)) = e
   by_cases h2 : hi ≤ lo <;> by_cases h3 : len0 ≤ lo <;> cases a <;> cases b <;> cases e <;> simp [h2, h3]
def indL (anc : Nat) (rs : List Nat) : List Pt → Bool
 | [] => true
 | ⟨k, lo, hi, rs', ws⟩ :: l => if anc / 2 ^ k % 2 = 1 then indL anc rs l else
   if (rs.all fun id => !z5a ⟨k, lo, hi, rs', ws⟩ id) = true then indL anc rs l else false
theorem qPC (anc : Nat) (rs : List Nat) : indL anc rs [] = true := _root_.id rfl
theorem XRN (anc : Nat) (rs : List Nat) (k lo hi : Nat) (rs' ws : List Nat) (l : List Pt) : indL anc rs (⟨k, lo, hi, rs', ws⟩ :: l) = if anc / 2 ^ k % 2 = 1 then indL anc rs l else
      if (rs.all fun id => !z5a ⟨k, lo, hi, rs', ws⟩ id) = true then indL anc rs l else false := _root_.id rfl
theorem Zql (anc : Nat) (rs : List Nat) : ∀ past : List Pt, past.all (Kg6 anc rs []) = indL anc rs past
 | [] => rfl
 | ⟨k, lo, hi, rs', ws⟩ :: l => by
  rw [XRN, List.all_cons, Zql anc rs l]
  unfold Kg6
  rw [QvC, List.append_nil]
  by_cases h1 : anc / 2 ^ k % 2 = 1
  ·simp [h1]
  ·simp only [h1, decide_false, if_false, List.all_nil, Bool.and_true, Bool.false_eq_true]
   generalize (rs.all fun id => !z5a ⟨k, lo, hi, rs', ws⟩ id) = a
   cases a <;> simp
variable {c : Ctx} {k : List IT} {fr : List AV} {len0 n anc : Nat} {past : List Pt} {d : Option Nat} {ops : List DOp}
theorem Z3D (w0 : Nat) (ws : List Nat) (vs : List AV) (v : AV) (G : List AB) : W c (.dmk (w0 :: ws) vs (some (v, G)) len0 n anc past d ops :: k) fr h = (okL (fun i => decide (i < h.length)) vs = true ∧ HOk h ∧ indA len0 anc past (w0 :: ws) past = true ∧ ((w0 :: ws).all fun id => decide (id < h.length)) = true ∧ h.length ≤ G.length ∧ v.ok (qOk len0 h.length G.length anc past) = true ∧
      ((w0 :: ws).all fun id => (G.getD id .dead).ok (qOk len0 h.length G.length anc past)) = true ∧ ((G.drop h.length).all fun B => B.ok (qOk len0 h.length G.length anc past)) = true ∧
      W c (.drw len0 (n + 1) (⟨n, h.length, G.length, seen len0 anc (J2m past) h.length, w0 :: ws⟩ :: past) ops :: k) (put fr d v) (JU5 (w0 :: ws) G 0 h)) := by
  rw [← zAp]
  exact Kc3 (w0 :: ws) vs v G
theorem XVy (vs : List AV) (v : AV) (c0 anc' : Nat) (past' : List Pt) (x : List AB) : W c (.dmk [] vs (some (v, h ++ (mskQ h.length c0 anc' past' l ++ x))) len0 n anc past d ops :: k) fr (h ++ l) = (okL (fun i => decide (i < h.length + l.length)) vs = true ∧ HOk (h ++ l) ∧ indA len0 anc past [] past = true ∧ v.ok (qOk len0 (h.length + l.length) (h.length + (l.length + x.length)) anc past) = true ∧
      (x.all fun B => B.ok (qOk len0 (h.length + l.length) (h.length + (l.length + x.length)) anc past)) = true ∧
      W c (.drw len0 (n + 1) (⟨n, h.length + l.length, h.length + (l.length + x.length), seen len0 anc (J2m past) (h.length + l.length), []⟩ :: past) ops :: k) (put fr d v) (h ++ (l ++ x))) := by
  rw [← zAp, Kc3, Jvb _ _ _ (zLt _ _ _ _ _)]
  have e1 : (h ++ l).length = h.length + l.length := List.length_append
  have e2 : (h ++ (mskQ h.length c0 anc' past' l ++ x)).length = h.length + (l.length + x.length) := by rw [List.length_append, List.length_append, zLt]
  have e3 : (h ++ (mskQ h.length c0 anc' past' l ++ x)).drop (h ++ l).length = x := by
    rw [e1, q8F, List.drop_append_of_le_length (by rw [zLt]; exact Nat.le_refl _), List.drop_eq_nil_of_le (by rw [zLt]; exact Nat.le_refl _), List.nil_append]
  rw [e3, e2, e1]
  have e4 : (h.length + l.length ≤ h.length + (l.length + x.length)) = True := eq_true (by omega)
  simp only [List.all_nil, e4, true_and]
theorem Yu6 (vs : List AV) (v : AV) (c0 anc' : Nat) (past' : List Pt) : W c (.dmk [] vs (some (v, h ++ mskQ h.length c0 anc' past' l)) len0 n anc past d ops :: k) fr (h ++ l) = (okL (fun i => decide (i < h.length + l.length)) vs = true ∧ HOk (h ++ l) ∧ indA len0 anc past [] past = true ∧ v.ok (qOk len0 (h.length + l.length) (h.length + l.length) anc past) = true ∧
      W c (.drw len0 (n + 1) (⟨n, h.length + l.length, h.length + l.length, seen len0 anc (J2m past) (h.length + l.length), []⟩ :: past) ops :: k) (put fr d v) (h ++ l)) := by
  have := XVy (c := c) (k := k) (fr := fr) (len0 := len0) (n := n) (anc := anc) (past := past) (d := d) (ops := ops) (h := h) (l := l) vs v c0 anc' past' []
  simpa only [List.append_nil, List.length_nil, Nat.add_zero, List.all_nil, true_and] using this
theorem zak (v : AV) (h' : List AB) (x : AV) : W c (.dld (some (v, h')) x len0 n anc past d ops :: k) fr h = ((if indA len0 anc past [] past = true then True else indL anc (idOf x) past = true) ∧ x.ok (qOk len0 0 0 anc past) = true ∧ v.ok (qOk len0 0 0 anc past) = true ∧ W c (.drw len0 (n + 1) (⟨n, 0, 0, idOf x, []⟩ :: past) ops :: k) (put fr d v) h) := by
 rw [← zAp, ← Zql]
 exact YXc v h' x
theorem ZnW {n : Nat} (h : n ≤ 1000000) : (n ≤ maxLen) = True := eq_true (by unfold maxLen; omega)
end
def zLK := (And.intro (And.intro (And.intro (And.intro (And.intro (And.intro (And.intro @QZc @zGR) (And.intro @ZDs @KSD)) (And.intro (And.intro @XMI @QsJ) (And.intro @ZEP (And.intro @XWN @YGN)))) (And.intro (And.intro (And.intro @XSd @Xrq) (And.intro @KJa (And.intro @KlU @Qo8))) (And.intro (And.intro @Xe8 @qkF) (And.intro @zfn (And.intro @ZIr @zak))))) (And.intro (And.intro (And.intro (And.intro @Xam @Ji1) (And.intro @QI5 @zg1)) (And.intro (And.intro @KIg @zfT) (And.intro @QGr (And.intro @XIk @qkt)))) (And.intro (And.intro (And.intro @QQ2 @KYi) (And.intro @KWY (And.intro @Qyo @Zdr))) (And.intro (And.intro @zsz @JYU) (And.intro @QyB (And.intro @Ysl @JAs)))))) (And.intro (And.intro (And.intro (And.intro (And.intro @YmC @XMk) (And.intro @zep @YNX)) (And.intro (And.intro @JDv @JWT) (And.intro @K8Q (And.intro @qop @KZn)))) (And.intro (And.intro (And.intro @ZQX @XLU) (And.intro @Yiu (And.intro @ZO2 @zUI))) (And.intro (And.intro @QDL @Ybv) (And.intro @YoR (And.intro @YUB @YBI))))) (And.intro (And.intro (And.intro (And.intro @JY8 @Y8e) (And.intro @YkB (And.intro @XrS @Y2i))) (And.intro (And.intro @znM @JK8) (And.intro @KQS (And.intro @Ja9 @Yr5)))) (And.intro (And.intro (And.intro @q9k @K6r) (And.intro @KdR (And.intro @zG2 @Yrq))) (And.intro (And.intro @K18 @qWx) (And.intro @XFD (And.intro @X4Z @zIG))))))) (And.intro (And.intro (And.intro (And.intro (And.intro (And.intro @ok_i @ok_b) (And.intro @ok_s @XzQ)) (And.intro (And.intro @KKs @Klt) (And.intro @ok_p (And.intro @ok_y @J2u)))) (And.intro (And.intro (And.intro @ok_f @Z4M) (And.intro @QTF (And.intro @J2K @znG))) (And.intro (And.intro @KOi @qvU) (And.intro @YKy (And.intro @KYh @QPb))))) (And.intro (And.intro (And.intro (And.intro @qai @K3O) (And.intro @JL9 (And.intro @any_cons @KKI))) (And.intro (And.intro @q30 @KU5) (And.intro @YBz (And.intro @Zx8 @XKk)))) (And.intro (And.intro (And.intro @q27 @KLb) (And.intro @qfM (And.intro @YIK @Tab.ws_nil))) (And.intro (And.intro @Tab.ws_cons @decide_true) (And.intro @decide_false (And.intro @Bool.or_true @Bool.or_false)))))) (And.intro (And.intro (And.intro (And.intro (And.intro @Bool.true_or @Bool.false_or) (And.intro @Bool.not_true @Bool.not_false)) (And.intro (And.intro @K3c @Z3O) (And.intro @XUu (And.intro @JjY @JqG)))) (And.intro (And.intro (And.intro @Q5O @qE4) (And.intro @zQY (And.intro @YE7 @JNv))) (And.intro (And.intro @Z3D @XVy) (And.intro @Yu6 (And.intro @qZc @ZYA))))) (And.intro (And.intro (And.intro (And.intro @XDH @zLt) (And.intro @JV2 (And.intro @Xbt @ZvW))) (And.intro (And.intro @qyM @Y34) (And.intro @qFj (And.intro @Yyj @XM2)))) (And.intro (And.intro (And.intro @qPC @XRN) (And.intro @and_self (And.intro @false_and @and_false))) (And.intro (And.intro @or_true @true_or) (And.intro @false_or (And.intro @or_false @ZnW))))))))
end Go.Proofs.YtfaccliekejngaaGreat
end
section
namespace Go.Proofs.YtfaccliekejngaaGreat
structure Dg where
 l : List UInt8
 h : l.length = 32
deriving DecidableEq
def u8A (b : UInt8) : AV := .i .u8 (b.toNat : Int)
theorem QUf {a b : UInt8} (e : u8A a = u8A b) : a = b := by
 unfold u8A at e
 have e2 : (a.toNat : Int) = (b.toNat : Int) := by
  injection e
 exact UInt8.toNat.inj (by omega)
theorem Zyv {α β : Type} {f : α → β} (hf : ∀ a b, f a = f b → a = b) : ∀ {l l' : List α}, l.map f = l'.map f → l = l'
 | [], [], _ => rfl
 | [], _ :: _, e => by simp at e
 | _ :: _, [], e => by simp at e
 | a :: l, b :: l', e => by
  simp only [List.map_cons, List.cons.injEq] at e
  rw [hf a b e.1, Zyv hf e.2]
theorem Dg.ext {a b : Dg} (e : a.l = b.l) : a = b := by
 cases a; cases b
 cases e
 rfl
def zBD : Dg := ⟨List.replicate 32 0, by simp⟩
def idR : Row Dg := ⟨fun x => x.l.map u8A, 32, fun x => by rw [List.length_map]; exact x.h, by decide, zBD, fun x y e => Dg.ext (Zyv (fun a b => QUf) e)⟩
abbrev Hd := (Int × Int) × Dg
def qdS : Row Hd := ⟨fun x => [.i .i64 x.1.1, .i .i64 x.1.2] ++ idR.f x.2, 34, fun x => by rw [List.length_append, idR.len]; rfl, by decide, ((0, 0), zBD), fun x y e => by
 simp only [List.cons_append, List.nil_append, List.cons.injEq, AV.i.injEq, true_and] at e
 exact Prod.ext (Prod.ext e.1 e.2.1) (idR.inj _ _ e.2.2)⟩
theorem KIY : idR.sz = 32 := _root_.id rfl
theorem zZY : qdS.sz = 34 := _root_.id rfl
theorem K9h (x : Hd) : qdS.f x = .i .i64 x.1.1 :: .i .i64 x.1.2 :: idR.f x.2 := _root_.id rfl
theorem QWt (x : Hd) : ((qdS.f x).drop 0).take 2 = dotR.f x.1 := by rw [K9h, YKr]; rfl
theorem ZY7 (x : Hd) : ((qdS.f x).drop 2).take 32 = idR.f x.2 := by
 rw [K9h]
 simp only [List.drop_succ_cons, List.drop_zero]
 exact List.take_of_length_le (by rw [idR.len]; exact Nat.le_refl _)
theorem eqcB : ∀ (l l' : List UInt8), l.length = l'.length → z7H (List.replicate l.length .i) (l.map u8A) (l'.map u8A) = some (decide (l = l'))
 | [], [], _ => by simp [z7H]
 | [], _ :: _, e => by simp at e
 | _ :: _, [], e => by simp at e
 | a :: l, b :: l', e => by
  simp only [List.length_cons, List.replicate_succ, List.map_cons, z7H, u8A, zZm, if_true, Option.bind_some]
  have ih := eqcB l l' (by simpa using e)
  rw [ih, Option.map_some]
  congr 1
  have h1 : ((a.toNat : Int) == (b.toNat : Int)) = decide (a = b) := by
   rw [Bool.eq_iff_iff]
   simp only [beq_iff_eq, decide_eq_true_eq]
   exact ⟨fun q => UInt8.toNat.inj (by omega), fun q => by rw [q]⟩
  rw [h1, Bool.eq_iff_iff]
  simp
theorem QSm (a b : Dg) : z7H [.i, .i, .i, .i, .i, .i, .i, .i, .i, .i, .i, .i, .i, .i, .i, .i, .i, .i, .i, .i, .i, .i, .i, .i, .i, .i, .i, .i, .i, .i, .i, .i] (idR.f a) (idR.f b) = some (decide (a = b)) := by
 have := eqcB a.l b.l (a.h.trans b.h.symm)
 rw [a.h] at this
 refine (show z7H [.i, .i, .i, .i, .i, .i, .i, .i, .i, .i, .i, .i, .i, .i, .i, .i, .i, .i, .i, .i, .i, .i, .i, .i, .i, .i, .i, .i, .i, .i, .i, .i] (idR.f a) (idR.f b) = some (decide (a.l = b.l)) from this).trans ?_
 congr 1
 exact decide_eq_decide.2 ⟨Dg.ext, fun q => by rw [q]⟩
theorem zp4 (a b : Hd) : z7H [.i, .i, .i, .i, .i, .i, .i, .i, .i, .i, .i, .i, .i, .i, .i, .i, .i, .i, .i, .i, .i, .i, .i, .i, .i, .i, .i, .i, .i, .i, .i, .i, .i, .i] (qdS.f a) (qdS.f b) = some (decide (a = b)) := by
 have h1 := QSm a.2 b.2
 have h2 : z7H [.i, .i, .i, .i, .i, .i, .i, .i, .i, .i, .i, .i, .i, .i, .i, .i, .i, .i, .i, .i, .i, .i, .i, .i, .i, .i, .i, .i, .i, .i, .i, .i, .i, .i] (qdS.f a) (qdS.f b) = ((zZm .i (.i .i64 a.1.1) (.i .i64 b.1.1)).bind fun r => (((zZm .i (.i .i64 a.1.2) (.i .i64 b.1.2)).bind fun r => (z7H [.i, .i, .i, .i, .i, .i, .i, .i, .i, .i, .i, .i, .i, .i, .i, .i, .i, .i, .i, .i, .i, .i, .i, .i, .i, .i, .i, .i, .i, .i, .i, .i] (idR.f a.2) (idR.f b.2)).map (r && ·))).map (r && ·)) := rfl
 rw [h2, h1]
 simp only [zZm, if_true, Option.bind_some, Option.map_some, Option.some.injEq]
 rw [Bool.eq_iff_iff]
 simp only [Bool.and_eq_true, beq_iff_eq, decide_eq_true_eq]
 constructor
 ·rintro ⟨q1, q2, q3⟩
  exact Prod.ext (Prod.ext q1 q2) q3
 ·rintro rfl
  exact ⟨rfl, rfl, rfl⟩
theorem Zg1 (q : Nat → Bool) : ∀ l : List UInt8, okL q (l.map u8A) = true
 | [] => by simp [okL]
 | a :: l => by simp [okL, u8A, AV.ok, Zg1 q l]
theorem XuT (q : Nat → Bool) (d : Dg) : okL q (idR.f d) = true := Zg1 q d.l
theorem QwN (q : Nat → Bool) (d : Hd) : okL q (qdS.f d) = true := by rw [K9h, znG, znG, ok_i, ok_i, XuT]; rfl
theorem zgh : ∀ l : List UInt8, (l.map u8A).all (wrOk true) = true
 | [] => rfl
 | a :: l => by rw [List.map_cons, List.all_cons, zgh l]; rfl
theorem zjk (d : Dg) : (idR.f d).all (wrOk true) = true := zgh d.l
theorem ZyM (d : Hd) : (qdS.f d).all (wrOk true) = true := by rw [K9h, List.all_cons, List.all_cons, zjk]; rfl
theorem qSZ {α : Type} {r : Row α} (h : ∀ d, (r.f d).all (wrOk true) = true) : ∀ l : List α, (r.cells l).all (wrOk true) = true
 | [] => rfl
 | d :: l => by
  have := qSZ h l
  simp only [Row.cells, List.flatMap_cons, List.all_append, h d, Bool.true_and] at this ⊢
  exact this
theorem Y0v (l : List Hd) : (qdS.cells l).all (wrOk true) = true := qSZ ZyM l
theorem qFK (x : Dg) : ∀ a ∈ idR.f x, a.fl = true := fun a ha => by
 obtain ⟨b, _, rfl⟩ := List.mem_map.1 (show a ∈ x.l.map u8A from ha)
 rfl
theorem KQd (x : Hd) : ∀ a ∈ qdS.f x, a.fl = true := fun a ha => by
 rw [K9h] at ha
 rcases List.mem_cons.1 ha with rfl | ha
 ·rfl
 ·rcases List.mem_cons.1 ha with rfl | ha
  ·rfl
  ·exact qFK _ a ha
end Go.Proofs.YtfaccliekejngaaGreat
end
section
namespace Go.Proofs.YtfaccliekejngaaGreat
open Go.ChangeShapes Go.WideShapes Go.ChangeAt Go.RowKit
section
variable {H : Type} {enc : TypeId × Value → H} {w : World} {base : Nat} {held : Bool}
theorem zCk {fuel : Nat} {cs : List Value} {x : DataW H × List MemPlace} (h : DataW.trod enc Tryz.prog w base (fun _ => true) held fuel 50 cs = some x) : ∃ i : Dg, cs = (idR.f i).map AV.val := by
 cases fuel with
 | zero => cases h
 | succ fuel =>
  obtain ⟨hl, he⟩ := Y6S Tryz.underlying50 h
  have hl2 : cs.length = 32 := hl.trans (by kernel_rfl)
  have h1 : Tryz.prog.cellsOf 5 = 1 := by kernel_rfl
  obtain ⟨d, hd, hdt⟩ := J8K (fun i (c : UInt8) => cs[i]? = some (.int .u8 (c.toNat : Int))) 32 fun i hi => by
   obtain ⟨y, hy⟩ := he i hi
   rw [h1] at hy
   obtain ⟨n, hn, hw⟩ := zJP Tryz.underlying5 hy
   refine ⟨UInt8.ofInt n, ?_⟩
   have e : ((cs.drop (i * 1)).take 1)[0]? = some (.int .u8 n) := by rw [hn]; rfl
   rw [List.getElem?_take_of_lt (by omega), List.getElem?_drop, zhF hw] at e
   simpa using e
  refine ⟨⟨d, hd⟩, ?_⟩
  apply List.ext_getElem?
  intro i
  show cs[i]? = ((d.map u8A).map AV.val)[i]?
  rw [List.map_map]
  by_cases hi : i < 32
  ·rw [List.getElem?_map, List.getElem?_eq_getElem (by omega : i < d.length), Option.map_some, hdt i _ (List.getElem?_eq_getElem (by omega : i < d.length))]
   rfl
  ·rw [List.getElem?_eq_none (by omega), List.getElem?_eq_none (by rw [List.length_map]; omega)]
theorem QGz {fuel : Nat} {cs : List Value} {x : DataW H × List MemPlace} (h : DataW.trod enc Tryz.prog w base (fun _ => true) held fuel 66 cs = some x) : ∃ i : Hd, cs = (qdS.f i).map AV.val := by
 cases fuel with
 | zero => cases h
 | succ fuel =>
  obtain ⟨hl, he⟩ := JkW Tryz.underlying66 h
  have hl2 : cs.length = 34 := hl.trans (by kernel_rfl)
  simp only [List.forall_mem_cons] at he
  obtain ⟨⟨y0, h0⟩, ⟨y1, h1⟩, _⟩ := he
  rw [(by kernel_rfl : Tryz.prog.cellsOf 48 = 2)] at h0
  rw [(by kernel_rfl : Tryz.prog.cellsOf 50 = 32)] at h1
  obtain ⟨r, n, e0, _, _⟩ := Qzg h0
  obtain ⟨i, e1⟩ := zCk h1
  refine ⟨((r, n), i), ?_⟩
  have e0' : cs.take 2 = _ := e0
  have e1' : (cs.drop 2).take 32 = _ := e1
  have : cs = cs.take 2 ++ (cs.drop 2).take 32 := by
   have q : (cs.drop 2).take 32 = cs.drop 2 := List.take_of_length_le (by rw [List.length_drop]; omega)
   rw [q, List.take_append_drop]
  rw [this, e0', e1', K9h]
  rfl
theorem YNN {fuel : Nat} {cs : List Value} {x : DataW H × List MemPlace} (h : DataW.trod enc Tryz.prog w base (fun _ => true) held fuel 22 cs = some x) : ∃ v, cs = [v] ∧ ∃ xs : List Hd, Sl w v xs.length ((qdS.cells xs).map AV.val) := by
 obtain ⟨v, h1, ts, h2⟩ := Xcf (fun _ cs (c : Hd) => cs = (qdS.f c).map AV.val) Tryz.underlying22 (size := 34) (by kernel_rfl) (by decide) (fun fuel cs x hx => QGz hx) h
 exact ⟨v, h1, ts, RdL.row (r := qdS) h2⟩
theorem YtW {α : Type} {l : List α} (h : l.length = 3) : ∃ a b c, l = [a, b, c] := by
 match l, h with
 | [a, b, c], _ => exact ⟨a, b, c, rfl⟩
end
end Go.Proofs.YtfaccliekejngaaGreat
end
section
namespace Go.Proofs.YtfaccliekejngaaGreat
open Go.ChangeShapes Go.WideShapes Go.ChangeAt Go.RowKit
section
variable {H : Type} {enc : TypeId × Value → H} {w : World} {base : Nat} {held : Bool}
theorem qja {fuel : Nat} {cs : List Value} {x : DataW H × List MemPlace} (h : DataW.trod enc Tryz.prog w base (fun _ => true) held fuel 28 cs = some x) :
  ∃ l v d, cs = [l, v, d] ∧ (∃ hs : List Hd, Sl w l hs.length ((qdS.cells hs).map AV.val)) ∧ (∃ xs : List Int, Sl w v xs.length ((intR.cells xs).map AV.val)) ∧ ∃ ds : List (Int × Int), Sl w d ds.length ((dotR.cells ds).map AV.val) := by
 cases fuel with
 | zero => cases h
 | succ fuel =>
  obtain ⟨hl, he⟩ := JkW Tryz.underlying28 h
  have hl2 : cs.length = 3 := hl.trans (by kernel_rfl)
  simp only [List.forall_mem_cons] at he
  obtain ⟨⟨y0, h0⟩, ⟨y1, h1⟩, _⟩ := he
  rw [(by kernel_rfl : Tryz.prog.cellsOf 22 = 1)] at h0
  rw [(by kernel_rfl : Tryz.prog.cellsOf 26 = 2)] at h1
  obtain ⟨l, e0, s0⟩ := YNN h0
  obtain ⟨v, d, e1, s1, s2⟩ := YBG h1
  obtain ⟨a, b, c, rfl⟩ := YtW hl2
  have e0' : [a] = _ := e0
  have e1' : [b, c] = _ := e1
  cases e0'
  cases e1'
  exact ⟨_, _, _, rfl, s0, s1, s2⟩
theorem JkZ {α : Type} {l : List α} (h : l.length = 4) : ∃ a b c d, l = [a, b, c, d] := by
 match l, h with
 | [a, b, c, d], _ => exact ⟨a, b, c, d, rfl⟩
theorem qM9 {fuel : Nat} {cs : List Value} {x : DataW H × List MemPlace} (h : DataW.trod enc Tryz.prog w base (fun _ => true) held fuel 24 cs = some x) : ∃ v, cs = [v] ∧ ∃ xs : List (Int × Int), Sl w v xs.length ((dotR.cells xs).map AV.val) := JOm h
theorem Y9X {fuel : Nat} {cs : List Value} {x : DataW H × List MemPlace} (h : DataW.trod enc Tryz.prog w base (fun _ => true) held fuel 38 cs = some x) :
  ∃ l o v d, cs = [l, o, v, d] ∧ (∃ hs : List Hd, Sl w l hs.length ((qdS.cells hs).map AV.val)) ∧ (∃ ks : List (Int × Int), Sl w o ks.length ((dotR.cells ks).map AV.val)) ∧ (∃ xs : List Int, Sl w v xs.length ((intR.cells xs).map AV.val)) ∧ ∃ ds : List (Int × Int), Sl w d ds.length ((dotR.cells ds).map AV.val) := by
 cases fuel with
 | zero => cases h
 | succ fuel =>
  obtain ⟨hl, he⟩ := JkW Tryz.underlying38 h
  have hl2 : cs.length = 4 := hl.trans (by kernel_rfl)
  simp only [List.forall_mem_cons] at he
  obtain ⟨⟨y0, h0⟩, ⟨y1, h1⟩, ⟨y2, h2⟩, _⟩ := he
  rw [(by kernel_rfl : Tryz.prog.cellsOf 22 = 1)] at h0
  rw [(by kernel_rfl : Tryz.prog.cellsOf 24 = 1)] at h1
  rw [(by kernel_rfl : Tryz.prog.cellsOf 26 = 2)] at h2
  obtain ⟨l, e0, s0⟩ := YNN h0
  obtain ⟨o, e1, s1⟩ := qM9 h1
  obtain ⟨v, d, e2, s2, s3⟩ := YBG h2
  obtain ⟨a, b, c, d', rfl⟩ := JkZ hl2
  have e0' : [a] = _ := e0
  have e1' : [b] = _ := e1
  have e2' : [c, d'] = _ := e2
  cases e0'
  cases e1'
  cases e2'
  exact ⟨_, _, _, _, rfl, s0, s1, s2, s3⟩
end
end Go.Proofs.YtfaccliekejngaaGreat
end
