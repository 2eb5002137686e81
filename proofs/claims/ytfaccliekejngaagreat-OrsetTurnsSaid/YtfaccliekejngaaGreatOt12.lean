/- Part 12 of what the laws' proofs rest on. No condition. -/
import Derived.Test.YtfaccliekejngaaGreatProg
import Derived.Test.YtfaccliekejngaaGreatOt11
set_option linter.all false
section
namespace Go.Proofs.YtfaccliekejngaaGreat
open Go.ChangeShapes Go.WideShapes Go.ChangeAt Go.RowKit
section
variable {K : Code → CC → Prop} {ρ : Mp} {h : List AB} {w : World}
theorem In.hz (i : In K ρ h w) : h.map AB.freeze = h := by
 refine List.ext_getElem? fun j => ?_
 rw [List.getElem?_map]
 cases e : h[j]? with
 | none => rfl
 | some B =>
  have := i.frz B (List.mem_of_getElem? e)
  rw [Option.map_some]
  congr 1
  cases B <;> first | rfl | (cases this; done) | (simp only [AB.mut] at this; subst this; rfl)
theorem In.sl {α : Type} {r : Row α} (i : In K ρ h w) (hfl : ∀ x, ∀ a ∈ r.f x, a.fl = true) {v : Value} {l : List α} (hs : Sl w v l.length ((r.cells l).map AV.val)) :
  ∃ x s B, In K (ρ ++ [x]) (h ++ [B]) w ∧ VR (ρ ++ [x]) s v ∧ Rd r (h ++ [B]) s l ∧ Ext ρ (ρ ++ [x]) ∧ s.capOk = true := by
 obtain ⟨hl, x, i', vr⟩ := i.slice hfl hs
 exact ⟨x, _, _, i', vr, zRx (by rw [List.getElem?_append_right (Nat.le_refl _), Nat.sub_self]; rfl) hl, Ext.push _ _, KGT _ _⟩
theorem RdL.row {α : Type} {r : Row α} {v : Value} {ts : List α} (e : RdL (fun _ cs x => cs = (r.f x).map AV.val) r.sz w v ts) : Sl w v ts.length ((r.cells ts).map AV.val) := by
 obtain ⟨cs, h1, h2, h3⟩ := e
 have hcs : cs = (r.cells ts).map AV.val := by
  apply List.ext_getElem?
  intro k
  by_cases hk : k < ts.length * r.sz
  ·have hi : k / r.sz < ts.length := (Nat.div_lt_iff_lt_mul r.pos).2 hk
   have hj := Nat.mod_lt k r.pos
   have ek : k = k / r.sz * r.sz + k % r.sz := by rw [Nat.mul_comm]; exact (Nat.div_add_mod k r.sz).symm
   have ht : ts[k / r.sz]? = some (ts.getD (k / r.sz) r.d) := by rw [List.getD_eq_getElem?_getD, List.getElem?_eq_getElem hi]; rfl
   have q := h3 _ _ ht
   have q1 : ((cs.drop (k / r.sz * r.sz)).take r.sz)[k % r.sz]? = ((r.f (ts.getD (k / r.sz) r.d)).map AV.val)[k % r.sz]? := by rw [q]
   rw [List.getElem?_take_of_lt hj, List.getElem?_drop, ← ek, List.getElem?_map, ← r.cells_get ts _ _ hi hj, ← ek] at q1
   rw [q1, List.getElem?_map]
  ·rw [List.getElem?_eq_none (by omega), List.getElem?_eq_none (by rw [List.length_map, r.cells_len]; omega)]
 rw [hcs] at h1
 exact h1
end
section
variable {H : Type} {enc : TypeId × Value → H} {w : World} {base : Nat} {held : Bool}
theorem QD5 {α : Type} {l : List α} (h : l.length = 2) : ∃ a b, l = [a, b] := by
 match l, h with
 | [a, b], _ => exact ⟨a, b, rfl⟩
theorem KsO {fuel : Nat} {cs : List Value} {x : DataW H × List MemPlace} (h : DataW.trod enc Tryz.prog w base (fun _ => true) held fuel 23 cs = some x) : ∃ v, cs = [v] ∧ ∃ xs : List Int, Sl w v xs.length ((intR.cells xs).map AV.val) := by
 obtain ⟨v, h1, ts, h2⟩ := Jri (fun _ cs (c : Int) => cs = (intR.f c).map AV.val) Tryz.underlying23 (size := 1) (by kernel_rfl) (by decide) (fun fuel cs x hx => by
  obtain ⟨n, rfl, hw⟩ := Xiq Tryz.underlying3 hx
  exact ⟨n, by rw [JEE]; rfl⟩) h
 exact ⟨v, h1, ts, RdL.row (r := intR) h2⟩
theorem qmZ {fuel : Nat} {cs : List Value} {x : DataW H × List MemPlace} (h : DataW.trod enc Tryz.prog w base (fun _ => true) held fuel 48 cs = some x) : ∃ r n, cs = [.int .i64 r, .int .i64 n] ∧ (-9223372036854775808 ≤ r ∧ r ≤ 9223372036854775807) ∧ (-9223372036854775808 ≤ n ∧ n ≤ 9223372036854775807) := by
 cases fuel with
 | zero => cases h
 | succ fuel =>
  obtain ⟨hl, he⟩ := KTk Tryz.underlying48 h
  have hl2 : cs.length = 2 := hl.trans (by kernel_rfl)
  simp only [List.forall_mem_cons] at he
  obtain ⟨⟨y0, h0⟩, ⟨y1, h1⟩, _⟩ := he
  rw [(by kernel_rfl : Tryz.prog.cellsOf 3 = 1)] at h0 h1
  obtain ⟨r, e0, w0⟩ := Xiq Tryz.underlying3 h0
  obtain ⟨n, e1, w1⟩ := Xiq Tryz.underlying3 h1
  obtain ⟨a, b, rfl⟩ := QD5 hl2
  have e0' : [a] = _ := e0
  have e1' : [b] = _ := e1
  cases e0'
  cases e1'
  exact ⟨r, n, rfl, KGp w0, KGp w1⟩
theorem YFL {fuel : Nat} {cs : List Value} {x : DataW H × List MemPlace} (h : DataW.trod enc Tryz.prog w base (fun _ => true) held fuel 24 cs = some x) : ∃ v, cs = [v] ∧ ∃ xs : List (Int × Int), Sl w v xs.length ((dotR.cells xs).map AV.val) := by
 obtain ⟨v, h1, ts, h2⟩ := Jri (fun _ cs (c : Int × Int) => cs = (dotR.f c).map AV.val) Tryz.underlying24 (size := 2) (by kernel_rfl) (by decide) (fun fuel cs x hx => by
  obtain ⟨r, n, rfl, _, _⟩ := qmZ hx
  exact ⟨(r, n), by rw [KdD]; rfl⟩) h
 exact ⟨v, h1, ts, RdL.row (r := dotR) h2⟩
theorem ZZT {fuel : Nat} {cs : List Value} {x : DataW H × List MemPlace} (h : DataW.trod enc Tryz.prog w base (fun _ => true) held fuel 26 cs = some x) :
  ∃ v d, cs = [v, d] ∧ (∃ xs : List Int, Sl w v xs.length ((intR.cells xs).map AV.val)) ∧ ∃ ds : List (Int × Int), Sl w d ds.length ((dotR.cells ds).map AV.val) := by
 cases fuel with
 | zero => cases h
 | succ fuel =>
  obtain ⟨hl, he⟩ := KTk Tryz.underlying26 h
  have hl2 : cs.length = 2 := hl.trans (by kernel_rfl)
  simp only [List.forall_mem_cons] at he
  obtain ⟨⟨y0, h0⟩, ⟨y1, h1⟩, _⟩ := he
  rw [(by kernel_rfl : Tryz.prog.cellsOf 23 = 1)] at h0
  rw [(by kernel_rfl : Tryz.prog.cellsOf 24 = 1)] at h1
  obtain ⟨v, e0, s0⟩ := KsO h0
  obtain ⟨d, e1, s1⟩ := YFL h1
  obtain ⟨a, b, rfl⟩ := QD5 hl2
  have e0' : [a] = _ := e0
  have e1' : [b] = _ := e1
  cases e0'
  cases e1'
  exact ⟨_, _, rfl, s0, s1⟩
end
end Go.Proofs.YtfaccliekejngaaGreat
end
section
namespace Go.Proofs.YtfaccliekejngaaGreat
section
variable {α : Type} {r : Row α} {h l : List AB}
def mskQ (base c anc : Nat) (past : List Pt) (l : List AB) : List AB := mskL base c anc past [] 0 l
def vis (base c anc : Nat) (past : List Pt) (k : Nat) : Bool := decide (k < c) || past.any (fun p => bit p.k anc && decide (p.lo ≤ base + k) && decide (base + k < p.hi))
theorem KhV (base c anc : Nat) (past : List Pt) (k : Nat) : qOk (base + c) 0 0 anc past (base + k) = vis base c anc past k := by
 rw [znw]
 unfold vis
 have e1 : decide (base + k < base + c) = decide (k < c) := decide_eq_decide.2 (by omega)
 have e2 : decide (base + k < 0) = false := decide_eq_false (by omega)
 rw [e1, e2, Bool.and_false, Bool.or_false]
theorem Yzw (base c anc : Nat) (past : List Pt) (l : List AB) (k : Nat) : (mskQ base c anc past l)[k]? = (l[k]?).map fun B => if vis base c anc past k = true then B.freeze else .dead := by
 unfold mskQ
 rw [Qh9, Nat.zero_add]
 congr 1
 funext B
 rw [KhV]
 simp [zIb]
theorem Juu (base c anc : Nat) (past : List Pt) (l : List AB) : (mskQ base c anc past l).length = l.length := by
 rcases Nat.lt_trichotomy (mskQ base c anc past l).length l.length with q | q | q
 ·have := Yzw base c anc past l (mskQ base c anc past l).length
  rw [List.getElem?_eq_none (Nat.le_refl _), List.getElem?_eq_getElem q] at this
  cases this
 ·exact q
 ·have := Yzw base c anc past l l.length
  rw [List.getElem?_eq_none (Nat.le_refl _), List.getElem?_eq_getElem q] at this
  cases this
theorem ZAO (L : List AB) (k : Nat) : ownC L k = match L[k]? with
  | some (.blk _ _ xs) => some xs
  | _ => none := by rw [← JoM]; rfl
theorem Z31 {base c anc : Nat} {past : List Pt} {k : Nat} (hv : vis base c anc past k = true) : ownC (mskQ base c anc past l) k = ownC l k := by
 rw [ZAO, ZAO, Yzw]
 cases l[k]? with
 | none => rfl
 | some B => simp only [Option.map_some, hv, if_true]; cases B <;> rfl
theorem Y7h {base c anc : Nat} {past : List Pt} {k : Nat} (hv : vis base c anc past k = true) : bxL (mskQ base c anc past l) k = bxL l k := by
 rw [← ZdW, ← ZdW]
 unfold bxS
 rw [Yzw]
 cases l[k]? with
 | none => rfl
 | some B =>
  simp only [Option.map_some, hv, if_true]
  cases B with
  | blk fl m xs => cases fl <;> (cases xs with | nil => rfl | cons a t => cases t <;> rfl)
  | _ => rfl
theorem zeu (x : List α) : ∀ (L : List AB) (k : Nat), ownR r x L k ↔ ∃ m, L[k]? = some (resB r m x)
 | [], k => by simp [ownR]
 | B :: L, 0 => by simp [ownR]
 | B :: L, k + 1 => by simpa [ownR] using zeu x L k
theorem Yek {base c anc : Nat} {past : List Pt} {k : Nat} (x : List α) (hv : vis base c anc past k = true) (hr : ownR r x l k) : ownR r x (mskQ base c anc past l) k = True := by
 refine eq_true ?_
 rw [zeu] at hr ⊢
 obtain ⟨m, e⟩ := hr
 exact ⟨false, by rw [Yzw, e, Option.map_some, if_pos hv, Q7O]⟩
theorem K9V (hz : h.map AB.freeze = h) (c anc n : Nat) (past : List Pt) (l : List AB) (hn : n = h.length + l.length) : QHx (seen (h.length + c) anc past n) [] 0 (h ++ l) = h ++ mskQ h.length c anc past l := QZp hz c anc n past [] l hn rfl
theorem Ksi (hz : h.map AB.freeze = h) (anc n : Nat) (past : List Pt) (l : List AB) (hn : n = h.length + l.length) : QHx (seen h.length anc past n) [] 0 (h ++ l) = h ++ mskQ h.length 0 anc past l := QZp hz 0 anc n past [] l hn rfl
theorem QFK (hz : h.map AB.freeze = h) (c anc n : Nat) (past : List Pt) (w0 : Nat) (ws : List Nat) (l : List AB) (hn : n = h.length + l.length) (hw : ((w0 :: ws).all fun id => decide (h.length ≤ id)) = true) : QHx (seen (h.length + c) anc past n) (w0 :: ws) 0 (h ++ l) = h ++ mskL h.length c anc past (w0 :: ws) 0 l := QZp hz c anc n past (w0 :: ws) l hn hw
theorem XGM (G x l : List AB) (hG : G.length = l.length) : Xxu [] (h ++ (G ++ x)) 0 (h ++ l) = h ++ (l ++ x) := by
 rw [JUJ [] (G ++ x) l rfl]
 congr 1
 refine List.ext_getElem? fun j => ?_
 rw [Zyq]
 by_cases hj : j < l.length
 ·rw [if_pos hj, if_neg (by simp), List.getElem?_append_left hj]
 ·rw [if_neg hj, List.getElem?_append_right (by omega), List.getElem?_append_right (by omega), hG]
def qP (anc : Nat) : List Pt → Nat → Bool
 | [], _ => false
 | ⟨k, lo, hi, _, _⟩ :: l, id => if lo ≤ id ∧ id < hi then (if anc / 2 ^ k % 2 = 1 then true else qP anc l id) else qP anc l id
theorem QPW (anc id : Nat) : qP anc [] id = false := _root_.id rfl
theorem qy2 (anc k lo hi : Nat) (rs ws : List Nat) (l : List Pt) (id : Nat) : qP anc (⟨k, lo, hi, rs, ws⟩ :: l) id = if lo ≤ id ∧ id < hi then (if anc / 2 ^ k % 2 = 1 then true else qP anc l id) else qP anc l id := _root_.id rfl
theorem J7L (anc id : Nat) : ∀ past : List Pt, qP anc past id = past.any fun p => bit p.k anc && decide (p.lo ≤ id) && decide (id < p.hi)
 | [] => rfl
 | ⟨k, lo, hi, rs, ws⟩ :: l => by
  rw [qy2, List.any_cons, J7L anc id l, qIi]
  by_cases h1 : lo ≤ id <;> by_cases h2 : id < hi <;> by_cases h3 : anc / 2 ^ k % 2 = 1 <;> simp [h1, h2, h3]
theorem Yn7 (len0 lo hi anc : Nat) (past : List Pt) (id : Nat) : qOk len0 lo hi anc past id = if id < len0 then true else if lo ≤ id ∧ id < hi then true else qP anc past id := by
 rw [znw, J7L]
 by_cases h1 : id < len0 <;> by_cases h2 : lo ≤ id <;> by_cases h3 : id < hi <;> simp [h1, h2, h3]
theorem ZIx (base c anc : Nat) (past : List Pt) (k : Nat) : vis base c anc past k = if k < c then true else qP anc past (base + k) := by
 unfold vis
 rw [J7L]
 by_cases h1 : k < c <;> simp [h1]
def sepA (anc lo hi : Nat) : List Pt → Bool
 | [] => true
 | ⟨k, lo', hi', _, _⟩ :: l => if hi' ≤ lo ∨ hi ≤ lo' then sepA anc lo hi l else if anc / 2 ^ k % 2 = 1 then false else sepA anc lo hi l
theorem XS7 (anc lo hi : Nat) : sepA anc lo hi [] = true := _root_.id rfl
theorem KMA (anc lo hi k lo' hi' : Nat) (rs ws : List Nat) (l : List Pt) : sepA anc lo hi (⟨k, lo', hi', rs, ws⟩ :: l) = if hi' ≤ lo ∨ hi ≤ lo' then sepA anc lo hi l else if anc / 2 ^ k % 2 = 1 then false else sepA anc lo hi l := _root_.id rfl
theorem Yer (anc lo hi : Nat) : ∀ past : List Pt, sepA anc lo hi past = past.all fun p' => !bit p'.k anc || decide (p'.hi ≤ lo) || decide (hi ≤ p'.lo)
 | [] => rfl
 | ⟨k, lo', hi', rs, ws⟩ :: l => by
  rw [KMA, List.all_cons, Yer anc lo hi l, qIi]
  by_cases h1 : hi' ≤ lo <;> by_cases h2 : hi ≤ lo' <;> by_cases h3 : anc / 2 ^ k % 2 = 1 <;> simp [h1, h2, h3]
def indA (len0 anc : Nat) (past0 : List Pt) (ws0 : List Nat) : List Pt → Bool
 | [] => true
 | ⟨k, lo, hi, rs, ws⟩ :: l => if anc / 2 ^ k % 2 = 1 then indA len0 anc past0 ws0 l else
   if (ws.all fun id => !qOk len0 0 0 anc past0 id) = true then
    if hi ≤ lo ∨ (len0 ≤ lo ∧ sepA anc lo hi past0 = true) then
     if (ws0.all fun id => !YXF ⟨k, lo, hi, rs, ws⟩ id && !memN id (rs ++ ws)) = true then indA len0 anc past0 ws0 l else false
    else false
   else false
theorem X4C (len0 anc : Nat) (past0 : List Pt) (ws0 : List Nat) : indA len0 anc past0 ws0 [] = true := _root_.id rfl
theorem qK5 (len0 anc : Nat) (past0 : List Pt) (ws0 : List Nat) (k lo hi : Nat) (rs ws : List Nat) (l : List Pt) : indA len0 anc past0 ws0 (⟨k, lo, hi, rs, ws⟩ :: l) = if anc / 2 ^ k % 2 = 1 then indA len0 anc past0 ws0 l else
      if (ws.all fun id => !qOk len0 0 0 anc past0 id) = true then
        if hi ≤ lo ∨ (len0 ≤ lo ∧ sepA anc lo hi past0 = true) then
          if (ws0.all fun id => !YXF ⟨k, lo, hi, rs, ws⟩ id && !memN id (rs ++ ws)) = true then indA len0 anc past0 ws0 l else false
        else false
      else false := _root_.id rfl
theorem ZRZ (len0 anc : Nat) (past0 : List Pt) (ws0 : List Nat) : ∀ past : List Pt, past.all (QPe len0 anc past0 ws0) = indA len0 anc past0 ws0 past
 | [] => rfl
 | ⟨k, lo, hi, rs, ws⟩ :: l => by
  rw [qK5, List.all_cons, ZRZ len0 anc past0 ws0 l, KdC, Yer, qIi]
  by_cases h1 : anc / 2 ^ k % 2 = 1
  ·simp [h1]
  ·simp only [h1, decide_false, Bool.false_or, if_false]
   generalize (ws.all fun id => !qOk len0 0 0 anc past0 id) = a
   generalize (past0.all fun p' => !bit p'.k anc || decide (p'.hi ≤ lo) || decide (hi ≤ p'.lo)) = b
   generalize (ws0.all fun id => !YXF ⟨k, lo, hi, rs, ws⟩ id && !memN id (rs ++ ws)) = e
   by_cases h2 : hi ≤ lo <;> by_cases h3 : len0 ≤ lo <;> cases a <;> cases b <;> cases e <;> simp [h2, h3]
def indL (anc : Nat) (rs : List Nat) : List Pt → Bool
 | [] => true
 | ⟨k, lo, hi, rs', ws⟩ :: l => if anc / 2 ^ k % 2 = 1 then indL anc rs l else
   if (rs.all fun id => !YXF ⟨k, lo, hi, rs', ws⟩ id) = true then indL anc rs l else false
theorem zKX (anc : Nat) (rs : List Nat) : indL anc rs [] = true := _root_.id rfl
theorem XiU (anc : Nat) (rs : List Nat) (k lo hi : Nat) (rs' ws : List Nat) (l : List Pt) : indL anc rs (⟨k, lo, hi, rs', ws⟩ :: l) = if anc / 2 ^ k % 2 = 1 then indL anc rs l else
      if (rs.all fun id => !YXF ⟨k, lo, hi, rs', ws⟩ id) = true then indL anc rs l else false := _root_.id rfl
theorem zjG (anc : Nat) (rs : List Nat) : ∀ past : List Pt, past.all (YFV anc rs []) = indL anc rs past
 | [] => rfl
 | ⟨k, lo, hi, rs', ws⟩ :: l => by
  rw [XiU, List.all_cons, zjG anc rs l]
  unfold YFV
  rw [qIi, List.append_nil]
  by_cases h1 : anc / 2 ^ k % 2 = 1
  ·simp [h1]
  ·simp only [h1, decide_false, if_false, List.all_nil, Bool.and_true, Bool.false_eq_true]
   generalize (rs.all fun id => !YXF ⟨k, lo, hi, rs', ws⟩ id) = a
   cases a <;> simp
variable {c : Ctx} {k : List IT} {fr : List AV} {len0 n anc : Nat} {past : List Pt} {d : Option Nat} {ops : List DOp}
theorem Jbi (w0 : Nat) (ws : List Nat) (vs : List AV) (v : AV) (G : List AB) : W c (.dmk (w0 :: ws) vs (some (v, G)) len0 n anc past d ops :: k) fr h = (okL (fun i => decide (i < h.length)) vs = true ∧ HOk h ∧ indA len0 anc past (w0 :: ws) past = true ∧ ((w0 :: ws).all fun id => decide (id < h.length)) = true ∧ h.length ≤ G.length ∧ v.ok (qOk len0 h.length G.length anc past) = true ∧
      ((w0 :: ws).all fun id => (G.getD id .dead).ok (qOk len0 h.length G.length anc past)) = true ∧ ((G.drop h.length).all fun B => B.ok (qOk len0 h.length G.length anc past)) = true ∧
      W c (.drw len0 (n + 1) (⟨n, h.length, G.length, seen len0 anc (JAW past) h.length, w0 :: ws⟩ :: past) ops :: k) (put fr d v) (Xxu (w0 :: ws) G 0 h)) := by
  rw [← ZRZ]
  exact quK (w0 :: ws) vs v G
theorem q2c (vs : List AV) (v : AV) (c0 anc' : Nat) (past' : List Pt) (x : List AB) : W c (.dmk [] vs (some (v, h ++ (mskQ h.length c0 anc' past' l ++ x))) len0 n anc past d ops :: k) fr (h ++ l) = (okL (fun i => decide (i < h.length + l.length)) vs = true ∧ HOk (h ++ l) ∧ indA len0 anc past [] past = true ∧ v.ok (qOk len0 (h.length + l.length) (h.length + (l.length + x.length)) anc past) = true ∧
      (x.all fun B => B.ok (qOk len0 (h.length + l.length) (h.length + (l.length + x.length)) anc past)) = true ∧
      W c (.drw len0 (n + 1) (⟨n, h.length + l.length, h.length + (l.length + x.length), seen len0 anc (JAW past) (h.length + l.length), []⟩ :: past) ops :: k) (put fr d v) (h ++ (l ++ x))) := by
  rw [← ZRZ, quK, XGM _ _ _ (Juu _ _ _ _ _)]
  have e1 : (h ++ l).length = h.length + l.length := List.length_append
  have e2 : (h ++ (mskQ h.length c0 anc' past' l ++ x)).length = h.length + (l.length + x.length) := by rw [List.length_append, List.length_append, Juu]
  have e3 : (h ++ (mskQ h.length c0 anc' past' l ++ x)).drop (h ++ l).length = x := by
    rw [e1, ZIs, List.drop_append_of_le_length (by rw [Juu]; exact Nat.le_refl _), List.drop_eq_nil_of_le (by rw [Juu]; exact Nat.le_refl _), List.nil_append]
  rw [e3, e2, e1]
  have e4 : (h.length + l.length ≤ h.length + (l.length + x.length)) = True := eq_true (by omega)
  simp only [List.all_nil, e4, true_and]
theorem JDl (vs : List AV) (v : AV) (c0 anc' : Nat) (past' : List Pt) : W c (.dmk [] vs (some (v, h ++ mskQ h.length c0 anc' past' l)) len0 n anc past d ops :: k) fr (h ++ l) = (okL (fun i => decide (i < h.length + l.length)) vs = true ∧ HOk (h ++ l) ∧ indA len0 anc past [] past = true ∧ v.ok (qOk len0 (h.length + l.length) (h.length + l.length) anc past) = true ∧
      W c (.drw len0 (n + 1) (⟨n, h.length + l.length, h.length + l.length, seen len0 anc (JAW past) (h.length + l.length), []⟩ :: past) ops :: k) (put fr d v) (h ++ l)) := by
  have := q2c (c := c) (k := k) (fr := fr) (len0 := len0) (n := n) (anc := anc) (past := past) (d := d) (ops := ops) (h := h) (l := l) vs v c0 anc' past' []
  simpa only [List.append_nil, List.length_nil, Nat.add_zero, List.all_nil, true_and] using this
theorem qtE (v : AV) (h' : List AB) (x : AV) : W c (.dld (some (v, h')) x len0 n anc past d ops :: k) fr h = ((if indA len0 anc past [] past = true then True else indL anc (idOf x) past = true) ∧ x.ok (qOk len0 0 0 anc past) = true ∧ v.ok (qOk len0 0 0 anc past) = true ∧ W c (.drw len0 (n + 1) (⟨n, 0, 0, idOf x, []⟩ :: past) ops :: k) (put fr d v) h) := by
 rw [← ZRZ, ← zjG]
 exact Qyu v h' x
theorem qPj {n : Nat} (h : n ≤ 1000000) : (n ≤ maxLen) = True := eq_true (by unfold maxLen; omega)
theorem Y8m {α : Type} (f : α → Bool) : [].all f = true := _root_.id rfl
end
def X5W := (And.intro (And.intro (And.intro (And.intro (And.intro (And.intro (And.intro @q6L @qao) (And.intro @KLS @Jsy)) (And.intro (And.intro @ZH6 @ZRb) (And.intro @KDT (And.intro @qph @QNL)))) (And.intro (And.intro (And.intro @QDy @Q1z) (And.intro @ZXF (And.intro @Y1o @qS0))) (And.intro (And.intro @zPG @QkC) (And.intro @qX2 (And.intro @YZL @qtE))))) (And.intro (And.intro (And.intro (And.intro @XyI @XnF) (And.intro @K5J @qbK)) (And.intro (And.intro @JTX @QE7) (And.intro @qwE (And.intro @Kvj @Yhy)))) (And.intro (And.intro (And.intro @KBZ @Kmx) (And.intro @q3C (And.intro @z6w @zv8))) (And.intro (And.intro @XCb @zZB) (And.intro @J18 (And.intro @Qbd @qJV)))))) (And.intro (And.intro (And.intro (And.intro (And.intro @JLb @K55) (And.intro @X1F @Y3P)) (And.intro (And.intro @Zu1 @XWG) (And.intro @XpA (And.intro @Qpp @zgD)))) (And.intro (And.intro (And.intro @YRC @qkQ) (And.intro @qnJ (And.intro @XEO @KGo))) (And.intro (And.intro @XY5 @Ylq) (And.intro @K03 (And.intro @YLV @ZW8))))) (And.intro (And.intro (And.intro (And.intro @qWM @Jjm) (And.intro @J8K (And.intro @ZiE @zIb))) (And.intro (And.intro @KdN @qfU) (And.intro @KzT (And.intro @qN2 @Zf5)))) (And.intro (And.intro (And.intro @JnB @XfZ) (And.intro @qjX (And.intro @JQR @QHy))) (And.intro (And.intro @Zjq @Zrb) (And.intro @XnY (And.intro @Jsj @ZnY))))))) (And.intro (And.intro (And.intro (And.intro (And.intro (And.intro @ok_i @ok_b) (And.intro @ok_s @Yiy)) (And.intro (And.intro @qj1 @K30) (And.intro @ok_p (And.intro @ok_y @q5T)))) (And.intro (And.intro (And.intro @ok_f @JAX) (And.intro @ZVg (And.intro @YI0 @qMC))) (And.intro (And.intro @YeG @JRH) (And.intro @KNH (And.intro @JpE @Qsg))))) (And.intro (And.intro (And.intro (And.intro @JbI @qiT) (And.intro @YNo (And.intro @any_cons @zoY))) (And.intro (And.intro @YWg @Ys6) (And.intro @K90 (And.intro @JZs @YFp)))) (And.intro (And.intro (And.intro @Jat @YpS) (And.intro @YAx (And.intro @KED @Tab.ws_nil))) (And.intro (And.intro @Tab.ws_cons @decide_true) (And.intro @decide_false (And.intro @Bool.or_true @Bool.or_false)))))) (And.intro (And.intro (And.intro (And.intro (And.intro @Bool.true_or @Bool.false_or) (And.intro @Bool.not_true @Bool.not_false)) (And.intro (And.intro @KSA @XNG) (And.intro @ZyD (And.intro @Z97 @z1G)))) (And.intro (And.intro (And.intro @qbd @Zh9) (And.intro @Kwt (And.intro @ZrU @XPg))) (And.intro (And.intro @Jbi @q2c) (And.intro @JDl (And.intro @Z31 @Y7h))))) (And.intro (And.intro (And.intro (And.intro @Yek @Juu) (And.intro @ZIx (And.intro @QPW @qy2))) (And.intro (And.intro @Yn7 @XS7) (And.intro @KMA (And.intro @X4C @qK5)))) (And.intro (And.intro (And.intro @zKX @XiU) (And.intro @and_self (And.intro @false_and @and_false))) (And.intro (And.intro @or_true @true_or) (And.intro @false_or (And.intro @or_false @qPj))))))))
end Go.Proofs.YtfaccliekejngaaGreat
end
section
namespace Go.Proofs.YtfaccliekejngaaGreat
structure Dg where
 l : List UInt8
 h : l.length = 32
deriving DecidableEq
def u8A (b : UInt8) : AV := .i .u8 (b.toNat : Int)
theorem KSR {a b : UInt8} (e : u8A a = u8A b) : a = b := by
 unfold u8A at e
 have e2 : (a.toNat : Int) = (b.toNat : Int) := by
  injection e
 exact UInt8.toNat.inj (by omega)
theorem KNf {α β : Type} {f : α → β} (hf : ∀ a b, f a = f b → a = b) : ∀ {l l' : List α}, l.map f = l'.map f → l = l'
 | [], [], _ => rfl
 | [], _ :: _, e => by simp at e
 | _ :: _, [], e => by simp at e
 | a :: l, b :: l', e => by
  simp only [List.map_cons, List.cons.injEq] at e
  rw [hf a b e.1, KNf hf e.2]
theorem Dg.ext {a b : Dg} (e : a.l = b.l) : a = b := by
 cases a; cases b
 cases e
 rfl
def KFp : Dg := ⟨List.replicate 32 0, by simp⟩
def idR : Row Dg := ⟨fun x => x.l.map u8A, 32, fun x => by rw [List.length_map]; exact x.h, by decide, KFp, fun x y e => Dg.ext (KNf (fun a b => KSR) e)⟩
abbrev Hd := (Int × Int) × Dg
def qjO : Row Hd := ⟨fun x => [.i .i64 x.1.1, .i .i64 x.1.2] ++ idR.f x.2, 34, fun x => by rw [List.length_append, idR.len]; rfl, by decide, ((0, 0), KFp), fun x y e => by
 simp only [List.cons_append, List.nil_append, List.cons.injEq, AV.i.injEq, true_and] at e
 exact Prod.ext (Prod.ext e.1 e.2.1) (idR.inj _ _ e.2.2)⟩
theorem QvR : idR.sz = 32 := _root_.id rfl
theorem YuL : qjO.sz = 34 := _root_.id rfl
theorem YA0 (x : Hd) : qjO.f x = .i .i64 x.1.1 :: .i .i64 x.1.2 :: idR.f x.2 := _root_.id rfl
theorem YzP (x : Hd) : ((qjO.f x).drop 0).take 2 = dotR.f x.1 := by rw [YA0, KdD]; rfl
theorem qfY (x : Hd) : ((qjO.f x).drop 2).take 32 = idR.f x.2 := by
 rw [YA0]
 simp only [List.drop_succ_cons, List.drop_zero]
 exact List.take_of_length_le (by rw [idR.len]; exact Nat.le_refl _)
theorem eqcB : ∀ (l l' : List UInt8), l.length = l'.length → XWq (List.replicate l.length .i) (l.map u8A) (l'.map u8A) = some (decide (l = l'))
 | [], [], _ => by simp [XWq]
 | [], _ :: _, e => by simp at e
 | _ :: _, [], e => by simp at e
 | a :: l, b :: l', e => by
  simp only [List.length_cons, List.replicate_succ, List.map_cons, XWq, u8A, ZtW, if_true, Option.bind_some]
  have ih := eqcB l l' (by simpa using e)
  rw [ih, Option.map_some]
  congr 1
  have h1 : ((a.toNat : Int) == (b.toNat : Int)) = decide (a = b) := by
   rw [Bool.eq_iff_iff]
   simp only [beq_iff_eq, decide_eq_true_eq]
   exact ⟨fun q => UInt8.toNat.inj (by omega), fun q => by rw [q]⟩
  rw [h1, Bool.eq_iff_iff]
  simp
theorem QLO (a b : Dg) : XWq [.i, .i, .i, .i, .i, .i, .i, .i, .i, .i, .i, .i, .i, .i, .i, .i, .i, .i, .i, .i, .i, .i, .i, .i, .i, .i, .i, .i, .i, .i, .i, .i] (idR.f a) (idR.f b) = some (decide (a = b)) := by
 have := eqcB a.l b.l (a.h.trans b.h.symm)
 rw [a.h] at this
 refine (show XWq [.i, .i, .i, .i, .i, .i, .i, .i, .i, .i, .i, .i, .i, .i, .i, .i, .i, .i, .i, .i, .i, .i, .i, .i, .i, .i, .i, .i, .i, .i, .i, .i] (idR.f a) (idR.f b) = some (decide (a.l = b.l)) from this).trans ?_
 congr 1
 exact decide_eq_decide.2 ⟨Dg.ext, fun q => by rw [q]⟩
theorem ZK0 (a b : Hd) : XWq [.i, .i, .i, .i, .i, .i, .i, .i, .i, .i, .i, .i, .i, .i, .i, .i, .i, .i, .i, .i, .i, .i, .i, .i, .i, .i, .i, .i, .i, .i, .i, .i, .i, .i] (qjO.f a) (qjO.f b) = some (decide (a = b)) := by
 have h1 := QLO a.2 b.2
 have h2 : XWq [.i, .i, .i, .i, .i, .i, .i, .i, .i, .i, .i, .i, .i, .i, .i, .i, .i, .i, .i, .i, .i, .i, .i, .i, .i, .i, .i, .i, .i, .i, .i, .i, .i, .i] (qjO.f a) (qjO.f b) = ((ZtW .i (.i .i64 a.1.1) (.i .i64 b.1.1)).bind fun r => (((ZtW .i (.i .i64 a.1.2) (.i .i64 b.1.2)).bind fun r => (XWq [.i, .i, .i, .i, .i, .i, .i, .i, .i, .i, .i, .i, .i, .i, .i, .i, .i, .i, .i, .i, .i, .i, .i, .i, .i, .i, .i, .i, .i, .i, .i, .i] (idR.f a.2) (idR.f b.2)).map (r && ·))).map (r && ·)) := rfl
 rw [h2, h1]
 simp only [ZtW, if_true, Option.bind_some, Option.map_some, Option.some.injEq]
 rw [Bool.eq_iff_iff]
 simp only [Bool.and_eq_true, beq_iff_eq, decide_eq_true_eq]
 constructor
 ·rintro ⟨q1, q2, q3⟩
  exact Prod.ext (Prod.ext q1 q2) q3
 ·rintro rfl
  exact ⟨rfl, rfl, rfl⟩
theorem JUL (q : Nat → Bool) : ∀ l : List UInt8, okL q (l.map u8A) = true
 | [] => by simp [okL]
 | a :: l => by simp [okL, u8A, AV.ok, JUL q l]
theorem Zph (q : Nat → Bool) (d : Dg) : okL q (idR.f d) = true := JUL q d.l
theorem KJo (q : Nat → Bool) (d : Hd) : okL q (qjO.f d) = true := by rw [YA0, qMC, qMC, ok_i, ok_i, Zph]; rfl
theorem YDd : ∀ l : List UInt8, (l.map u8A).all (wrOk true) = true
 | [] => rfl
 | a :: l => by rw [List.map_cons, List.all_cons, YDd l]; rfl
theorem Ydx (d : Dg) : (idR.f d).all (wrOk true) = true := YDd d.l
theorem XEe (d : Hd) : (qjO.f d).all (wrOk true) = true := by rw [YA0, List.all_cons, List.all_cons, Ydx]; rfl
theorem QnJ {α : Type} {r : Row α} (h : ∀ d, (r.f d).all (wrOk true) = true) : ∀ l : List α, (r.cells l).all (wrOk true) = true
 | [] => rfl
 | d :: l => by
  have := QnJ h l
  simp only [Row.cells, List.flatMap_cons, List.all_append, h d, Bool.true_and] at this ⊢
  exact this
theorem JpP (l : List Hd) : (qjO.cells l).all (wrOk true) = true := QnJ XEe l
theorem XQU (x : Dg) : ∀ a ∈ idR.f x, a.fl = true := fun a ha => by
 obtain ⟨b, _, rfl⟩ := List.mem_map.1 (show a ∈ x.l.map u8A from ha)
 rfl
theorem Jxi (x : Hd) : ∀ a ∈ qjO.f x, a.fl = true := fun a ha => by
 rw [YA0] at ha
 rcases List.mem_cons.1 ha with rfl | ha
 ·rfl
 ·rcases List.mem_cons.1 ha with rfl | ha
  ·rfl
  ·exact XQU _ a ha
end Go.Proofs.YtfaccliekejngaaGreat
end
section
namespace Go.Proofs.YtfaccliekejngaaGreat
open Go.ChangeShapes Go.WideShapes Go.ChangeAt Go.RowKit
section
variable {H : Type} {enc : TypeId × Value → H} {w : World} {base : Nat} {held : Bool}
theorem qRq {fuel : Nat} {cs : List Value} {x : DataW H × List MemPlace} (h : DataW.trod enc Tryz.prog w base (fun _ => true) held fuel 50 cs = some x) : ∃ i : Dg, cs = (idR.f i).map AV.val := by
 cases fuel with
 | zero => cases h
 | succ fuel =>
  obtain ⟨hl, he⟩ := Jo2 Tryz.underlying50 h
  have hl2 : cs.length = 32 := hl.trans (by kernel_rfl)
  have h1 : Tryz.prog.cellsOf 5 = 1 := by kernel_rfl
  obtain ⟨d, hd, hdt⟩ := X4u (fun i (c : UInt8) => cs[i]? = some (.int .u8 (c.toNat : Int))) 32 fun i hi => by
   obtain ⟨y, hy⟩ := he i hi
   rw [h1] at hy
   obtain ⟨n, hn, hw⟩ := Xiq Tryz.underlying5 hy
   refine ⟨UInt8.ofInt n, ?_⟩
   have e : ((cs.drop (i * 1)).take 1)[0]? = some (.int .u8 n) := by rw [hn]; rfl
   rw [List.getElem?_take_of_lt (by omega), List.getElem?_drop, qOe hw] at e
   simpa using e
  refine ⟨⟨d, hd⟩, ?_⟩
  apply List.ext_getElem?
  intro i
  show cs[i]? = ((d.map u8A).map AV.val)[i]?
  rw [List.map_map]
  by_cases hi : i < 32
  ·rw [List.getElem?_map, List.getElem?_eq_getElem (by omega : i < d.length), Option.map_some, hdt i _ (List.getElem?_eq_getElem (by omega : i < d.length))]
   rfl
  ·rw [List.getElem?_eq_none (by omega), List.getElem?_eq_none (by rw [List.length_map]; omega)]
theorem KNK {v : Value} {l : List Value} (e : v.cells.toList = l) (h : l.length ≠ 1) : v = .agg l.toArray := by
 subst e
 cases v <;> first | (simp [Value.cells] at h; done) | (simp [Value.cells])
theorem qhx {fuel : Nat} {cs : List Value} {x : DataW H × List MemPlace} (h : DataW.trod enc Tryz.prog w base (fun _ => true) held fuel 66 cs = some x) : ∃ i : Hd, cs = (qjO.f i).map AV.val := by
 cases fuel with
 | zero => cases h
 | succ fuel =>
  obtain ⟨hl, he⟩ := KTk Tryz.underlying66 h
  have hl2 : cs.length = 34 := hl.trans (by kernel_rfl)
  simp only [List.forall_mem_cons] at he
  obtain ⟨⟨y0, h0⟩, ⟨y1, h1⟩, _⟩ := he
  rw [(by kernel_rfl : Tryz.prog.cellsOf 48 = 2)] at h0
  rw [(by kernel_rfl : Tryz.prog.cellsOf 50 = 32)] at h1
  obtain ⟨r, n, e0, _, _⟩ := qmZ h0
  obtain ⟨i, e1⟩ := qRq h1
  refine ⟨((r, n), i), ?_⟩
  have e0' : cs.take 2 = _ := e0
  have e1' : (cs.drop 2).take 32 = _ := e1
  have : cs = cs.take 2 ++ (cs.drop 2).take 32 := by
   have q : (cs.drop 2).take 32 = cs.drop 2 := List.take_of_length_le (by rw [List.length_drop]; omega)
   rw [q, List.take_append_drop]
  rw [this, e0', e1', YA0]
  rfl
theorem YPM {fuel : Nat} {cs : List Value} {x : DataW H × List MemPlace} (h : DataW.trod enc Tryz.prog w base (fun _ => true) held fuel 22 cs = some x) : ∃ v, cs = [v] ∧ ∃ xs : List Hd, Sl w v xs.length ((qjO.cells xs).map AV.val) := by
 obtain ⟨v, h1, ts, h2⟩ := Jri (fun _ cs (c : Hd) => cs = (qjO.f c).map AV.val) Tryz.underlying22 (size := 34) (by kernel_rfl) (by decide) (fun fuel cs x hx => qhx hx) h
 exact ⟨v, h1, ts, RdL.row (r := qjO) h2⟩
theorem XBt {α : Type} {l : List α} (h : l.length = 3) : ∃ a b c, l = [a, b, c] := by
 match l, h with
 | [a, b, c], _ => exact ⟨a, b, c, rfl⟩
end
end Go.Proofs.YtfaccliekejngaaGreat
end
section
namespace Go.Proofs.YtfaccliekejngaaGreat
open Go.ChangeShapes Go.WideShapes Go.ChangeAt Go.RowKit
section
variable {H : Type} {enc : TypeId × Value → H} {w : World} {base : Nat} {held : Bool}
theorem JvQ {fuel : Nat} {cs : List Value} {x : DataW H × List MemPlace} (h : DataW.trod enc Tryz.prog w base (fun _ => true) held fuel 28 cs = some x) :
  ∃ l v d, cs = [l, v, d] ∧ (∃ hs : List Hd, Sl w l hs.length ((qjO.cells hs).map AV.val)) ∧ (∃ xs : List Int, Sl w v xs.length ((intR.cells xs).map AV.val)) ∧ ∃ ds : List (Int × Int), Sl w d ds.length ((dotR.cells ds).map AV.val) := by
 cases fuel with
 | zero => cases h
 | succ fuel =>
  obtain ⟨hl, he⟩ := KTk Tryz.underlying28 h
  have hl2 : cs.length = 3 := hl.trans (by kernel_rfl)
  simp only [List.forall_mem_cons] at he
  obtain ⟨⟨y0, h0⟩, ⟨y1, h1⟩, _⟩ := he
  rw [(by kernel_rfl : Tryz.prog.cellsOf 22 = 1)] at h0
  rw [(by kernel_rfl : Tryz.prog.cellsOf 26 = 2)] at h1
  obtain ⟨l, e0, s0⟩ := YPM h0
  obtain ⟨v, d, e1, s1, s2⟩ := ZZT h1
  obtain ⟨a, b, c, rfl⟩ := XBt hl2
  have e0' : [a] = _ := e0
  have e1' : [b, c] = _ := e1
  cases e0'
  cases e1'
  exact ⟨_, _, _, rfl, s0, s1, s2⟩
end
end Go.Proofs.YtfaccliekejngaaGreat
end
