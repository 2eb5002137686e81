/- Part 16 of what the laws' proofs rest on. No condition. -/
import Derived.WalkLawsBesides
import Derived.Deep.QuietTactic
import Derived.BigQuiet
import Derived.Lib.Hide
import Derived.Deep.WholeRow
import Derived.Test.YthllkjhommnocaaDoorPb15
set_option linter.all false
section
namespace Go.Proofs.YthllkjhommnocaaDoor
section
variable {α : Type} {r : Row α} {h l : List AB}
def mskQ (base c anc : Nat) (past : List Pt) (l : List AB) : List AB := mskL base c anc past [] 0 l
def vis (base c anc : Nat) (past : List Pt) (k : Nat) : Bool := decide (k < c) || past.any (fun p => bit p.k anc && decide (p.lo ≤ base + k) && decide (base + k < p.hi))
theorem KUb (base c anc : Nat) (past : List Pt) (k : Nat) : qOk (base + c) 0 0 anc past (base + k) = vis base c anc past k := by
 rw [zir]
 unfold vis
 have e1 : decide (base + k < base + c) = decide (k < c) := decide_eq_decide.2 (by omega)
 have e2 : decide (base + k < 0) = false := decide_eq_false (by omega)
 rw [e1, e2, Bool.and_false, Bool.or_false]
theorem Xp9 (base c anc : Nat) (past : List Pt) (l : List AB) (k : Nat) : (mskQ base c anc past l)[k]? = (l[k]?).map fun B => if vis base c anc past k = true then B.freeze else .dead := by
 unfold mskQ
 rw [qT2, Nat.zero_add]
 congr 1
 funext B
 rw [KUb]
 simp [zYO]
theorem Yho (base c anc : Nat) (past : List Pt) (l : List AB) : (mskQ base c anc past l).length = l.length := by
 rcases Nat.lt_trichotomy (mskQ base c anc past l).length l.length with q | q | q
 ·have := Xp9 base c anc past l (mskQ base c anc past l).length
  rw [List.getElem?_eq_none (Nat.le_refl _), List.getElem?_eq_getElem q] at this
  cases this
 ·exact q
 ·have := Xp9 base c anc past l l.length
  rw [List.getElem?_eq_none (Nat.le_refl _), List.getElem?_eq_getElem q] at this
  cases this
theorem Juw (L : List AB) (k : Nat) : ownC L k = match L[k]? with
  | some (.blk _ _ xs) => some xs
  | _ => none := by rw [← YAm]; rfl
theorem Kgq {base c anc : Nat} {past : List Pt} {k : Nat} (hv : vis base c anc past k = true) : ownC (mskQ base c anc past l) k = ownC l k := by
 rw [Juw, Juw, Xp9]
 cases l[k]? with
 | none => rfl
 | some B => simp only [Option.map_some, hv, if_true]; cases B <;> rfl
theorem YtH {base c anc : Nat} {past : List Pt} {k : Nat} (hv : vis base c anc past k = true) : bxL (mskQ base c anc past l) k = bxL l k := by
 rw [← XIs, ← XIs]
 unfold bxS
 rw [Xp9]
 cases l[k]? with
 | none => rfl
 | some B =>
  simp only [Option.map_some, hv, if_true]
  cases B with
  | blk fl m xs => cases fl <;> (cases xs with | nil => rfl | cons a t => cases t <;> rfl)
  | _ => rfl
theorem Zx2 (x : List α) : ∀ (L : List AB) (k : Nat), ownR r x L k ↔ ∃ m, L[k]? = some (resB r m x)
 | [], k => by simp [ownR]
 | B :: L, 0 => by simp [ownR]
 | B :: L, k + 1 => by simpa [ownR] using Zx2 x L k
theorem ZdC {base c anc : Nat} {past : List Pt} {k : Nat} (x : List α) (hv : vis base c anc past k = true) (hr : ownR r x l k) : ownR r x (mskQ base c anc past l) k = True := by
 refine eq_true ?_
 rw [Zx2] at hr ⊢
 obtain ⟨m, e⟩ := hr
 exact ⟨false, by rw [Xp9, e, Option.map_some, if_pos hv, QAK]⟩
theorem KjI (G x l : List AB) (hG : G.length = l.length) : Yjq [] (h ++ (G ++ x)) 0 (h ++ l) = h ++ (l ++ x) := by
 rw [XNQ [] (G ++ x) l rfl]
 congr 1
 refine List.ext_getElem? fun j => ?_
 rw [qNu]
 by_cases hj : j < l.length
 ·rw [if_pos hj, if_neg (by simp), List.getElem?_append_left hj]
 ·rw [if_neg hj, List.getElem?_append_right (by omega), List.getElem?_append_right (by omega), hG]
def qP (anc : Nat) : List Pt → Nat → Bool
 | [], _ => false
 | ⟨k, lo, hi, _, _⟩ :: l, id => if lo ≤ id ∧ id < hi then (if anc / 2 ^ k % 2 = 1 then true else qP anc l id) else qP anc l id
theorem YmW (anc id : Nat) : qP anc [] id = false := _root_.id rfl
theorem Y0k (anc k lo hi : Nat) (rs ws : List Nat) (l : List Pt) (id : Nat) : qP anc (⟨k, lo, hi, rs, ws⟩ :: l) id = if lo ≤ id ∧ id < hi then (if anc / 2 ^ k % 2 = 1 then true else qP anc l id) else qP anc l id := _root_.id rfl
theorem zPq (anc id : Nat) : ∀ past : List Pt, qP anc past id = past.any fun p => bit p.k anc && decide (p.lo ≤ id) && decide (id < p.hi)
 | [] => rfl
 | ⟨k, lo, hi, rs, ws⟩ :: l => by
  rw [Y0k, List.any_cons, zPq anc id l, ZD6]
  by_cases h1 : lo ≤ id <;> by_cases h2 : id < hi <;> by_cases h3 : anc / 2 ^ k % 2 = 1 <;> simp [h1, h2, h3]
theorem XTn (len0 lo hi anc : Nat) (past : List Pt) (id : Nat) : qOk len0 lo hi anc past id = if id < len0 then true else if lo ≤ id ∧ id < hi then true else qP anc past id := by
 rw [zir, zPq]
 by_cases h1 : id < len0 <;> by_cases h2 : lo ≤ id <;> by_cases h3 : id < hi <;> simp [h1, h2, h3]
theorem QkT (base c anc : Nat) (past : List Pt) (k : Nat) : vis base c anc past k = if k < c then true else qP anc past (base + k) := by
 unfold vis
 rw [zPq]
 by_cases h1 : k < c <;> simp [h1]
def sepA (anc lo hi : Nat) : List Pt → Bool
 | [] => true
 | ⟨k, lo', hi', _, _⟩ :: l => if hi' ≤ lo ∨ hi ≤ lo' then sepA anc lo hi l else if anc / 2 ^ k % 2 = 1 then false else sepA anc lo hi l
theorem Jnz (anc lo hi : Nat) : sepA anc lo hi [] = true := _root_.id rfl
theorem z6s (anc lo hi k lo' hi' : Nat) (rs ws : List Nat) (l : List Pt) : sepA anc lo hi (⟨k, lo', hi', rs, ws⟩ :: l) = if hi' ≤ lo ∨ hi ≤ lo' then sepA anc lo hi l else if anc / 2 ^ k % 2 = 1 then false else sepA anc lo hi l := _root_.id rfl
theorem Xuh (anc lo hi : Nat) : ∀ past : List Pt, sepA anc lo hi past = past.all fun p' => !bit p'.k anc || decide (p'.hi ≤ lo) || decide (hi ≤ p'.lo)
 | [] => rfl
 | ⟨k, lo', hi', rs, ws⟩ :: l => by
  rw [z6s, List.all_cons, Xuh anc lo hi l, ZD6]
  by_cases h1 : hi' ≤ lo <;> by_cases h2 : hi ≤ lo' <;> by_cases h3 : anc / 2 ^ k % 2 = 1 <;> simp [h1, h2, h3]
def indA (len0 anc : Nat) (past0 : List Pt) (ws0 : List Nat) : List Pt → Bool
 | [] => true
 | ⟨k, lo, hi, rs, ws⟩ :: l => if anc / 2 ^ k % 2 = 1 then indA len0 anc past0 ws0 l else
   if (ws.all fun id => !qOk len0 0 0 anc past0 id) = true then
    if hi ≤ lo ∨ (len0 ≤ lo ∧ sepA anc lo hi past0 = true) then
     if (ws0.all fun id => !X72 ⟨k, lo, hi, rs, ws⟩ id && !memN id (rs ++ ws)) = true then indA len0 anc past0 ws0 l else false
    else false
   else false
theorem Ztj (len0 anc : Nat) (past0 : List Pt) (ws0 : List Nat) : indA len0 anc past0 ws0 [] = true := _root_.id rfl
theorem Kqv (len0 anc : Nat) (past0 : List Pt) (ws0 : List Nat) (k lo hi : Nat) (rs ws : List Nat) (l : List Pt) : indA len0 anc past0 ws0 (⟨k, lo, hi, rs, ws⟩ :: l) = if anc / 2 ^ k % 2 = 1 then indA len0 anc past0 ws0 l else
      if (ws.all fun id => !qOk len0 0 0 anc past0 id) = true then
        if hi ≤ lo ∨ (len0 ≤ lo ∧ sepA anc lo hi past0 = true) then
          if (ws0.all fun id => !X72 ⟨k, lo, hi, rs, ws⟩ id && !memN id (rs ++ ws)) = true then indA len0 anc past0 ws0 l else false
        else false
      else false := _root_.id rfl
theorem ZGy (len0 anc : Nat) (past0 : List Pt) (ws0 : List Nat) : ∀ past : List Pt, past.all (qUm len0 anc past0 ws0) = indA len0 anc past0 ws0 past
 | [] => rfl
 | ⟨k, lo, hi, rs, ws⟩ :: l => by
  rw [Kqv, List.all_cons, ZGy len0 anc past0 ws0 l, z93, Xuh, ZD6]
  by_cases h1 : anc / 2 ^ k % 2 = 1
  ·simp [h1]
  ·simp only [h1, decide_false, Bool.false_or, if_false]
   generalize (ws.all fun id => !qOk len0 0 0 anc past0 id) = a
   generalize (past0.all fun p' => !bit p'.k anc || decide (p'.hi ≤ lo) || decide (hi ≤ p'.lo)) = b
   generalize (ws0.all fun id => !X72 ⟨k, lo, hi, rs, ws⟩ id && !memN id (rs ++ ws)) = e
   by_cases h2 : hi ≤ lo <;> by_cases h3 : len0 ≤ lo <;> cases a <;> cases b <;> cases e <;> simp [h2, h3]
def indL (anc : Nat) (rs : List Nat) : List Pt → Bool
 | [] => true
 | ⟨k, lo, hi, rs', ws⟩ :: l => if anc / 2 ^ k % 2 = 1 then indL anc rs l else
   if (rs.all fun id => !X72 ⟨k, lo, hi, rs', ws⟩ id) = true then indL anc rs l else false
theorem Z4k (anc : Nat) (rs : List Nat) : indL anc rs [] = true := _root_.id rfl
theorem Xs7 (anc : Nat) (rs : List Nat) (k lo hi : Nat) (rs' ws : List Nat) (l : List Pt) : indL anc rs (⟨k, lo, hi, rs', ws⟩ :: l) = if anc / 2 ^ k % 2 = 1 then indL anc rs l else
      if (rs.all fun id => !X72 ⟨k, lo, hi, rs', ws⟩ id) = true then indL anc rs l else false := _root_.id rfl
theorem Q7c (anc : Nat) (rs : List Nat) : ∀ past : List Pt, past.all (XOE anc rs []) = indL anc rs past
 | [] => rfl
 | ⟨k, lo, hi, rs', ws⟩ :: l => by
  rw [Xs7, List.all_cons, Q7c anc rs l]
  unfold XOE
  rw [ZD6, List.append_nil]
  by_cases h1 : anc / 2 ^ k % 2 = 1
  ·simp [h1]
  ·simp only [h1, decide_false, if_false, List.all_nil, Bool.and_true, Bool.false_eq_true]
   generalize (rs.all fun id => !X72 ⟨k, lo, hi, rs', ws⟩ id) = a
   cases a <;> simp
variable {c : Ctx} {k : List IT} {fr : List AV} {len0 n anc : Nat} {past : List Pt} {d : Option Nat} {ops : List DOp}
theorem KmL (w0 : Nat) (ws : List Nat) (vs : List AV) (v : AV) (G : List AB) : W c (.dmk (w0 :: ws) vs (some (v, G)) len0 n anc past d ops :: k) fr h = (okL (fun i => decide (i < h.length)) vs = true ∧ HOk h ∧ indA len0 anc past (w0 :: ws) past = true ∧ ((w0 :: ws).all fun id => decide (id < h.length)) = true ∧ h.length ≤ G.length ∧ v.ok (qOk len0 h.length G.length anc past) = true ∧
      ((w0 :: ws).all fun id => (G.getD id .dead).ok (qOk len0 h.length G.length anc past)) = true ∧ ((G.drop h.length).all fun B => B.ok (qOk len0 h.length G.length anc past)) = true ∧
      W c (.drw len0 (n + 1) (⟨n, h.length, G.length, seen len0 anc (Yk8 past) h.length, w0 :: ws⟩ :: past) ops :: k) (put fr d v) (Yjq (w0 :: ws) G 0 h)) := by
  rw [← ZGy]
  exact XoI (w0 :: ws) vs v G
theorem QYf (vs : List AV) (v : AV) (c0 anc' : Nat) (past' : List Pt) (x : List AB) : W c (.dmk [] vs (some (v, h ++ (mskQ h.length c0 anc' past' l ++ x))) len0 n anc past d ops :: k) fr (h ++ l) = (okL (fun i => decide (i < h.length + l.length)) vs = true ∧ HOk (h ++ l) ∧ indA len0 anc past [] past = true ∧ v.ok (qOk len0 (h.length + l.length) (h.length + (l.length + x.length)) anc past) = true ∧
      (x.all fun B => B.ok (qOk len0 (h.length + l.length) (h.length + (l.length + x.length)) anc past)) = true ∧
      W c (.drw len0 (n + 1) (⟨n, h.length + l.length, h.length + (l.length + x.length), seen len0 anc (Yk8 past) (h.length + l.length), []⟩ :: past) ops :: k) (put fr d v) (h ++ (l ++ x))) := by
  rw [← ZGy, XoI, KjI _ _ _ (Yho _ _ _ _ _)]
  have e1 : (h ++ l).length = h.length + l.length := List.length_append
  have e2 : (h ++ (mskQ h.length c0 anc' past' l ++ x)).length = h.length + (l.length + x.length) := by rw [List.length_append, List.length_append, Yho]
  have e3 : (h ++ (mskQ h.length c0 anc' past' l ++ x)).drop (h ++ l).length = x := by
    rw [e1, zwn, List.drop_append_of_le_length (by rw [Yho]; exact Nat.le_refl _), List.drop_eq_nil_of_le (by rw [Yho]; exact Nat.le_refl _), List.nil_append]
  rw [e3, e2, e1]
  have e4 : (h.length + l.length ≤ h.length + (l.length + x.length)) = True := eq_true (by omega)
  simp only [List.all_nil, e4, true_and]
theorem ZJb (vs : List AV) (v : AV) (c0 anc' : Nat) (past' : List Pt) : W c (.dmk [] vs (some (v, h ++ mskQ h.length c0 anc' past' l)) len0 n anc past d ops :: k) fr (h ++ l) = (okL (fun i => decide (i < h.length + l.length)) vs = true ∧ HOk (h ++ l) ∧ indA len0 anc past [] past = true ∧ v.ok (qOk len0 (h.length + l.length) (h.length + l.length) anc past) = true ∧
      W c (.drw len0 (n + 1) (⟨n, h.length + l.length, h.length + l.length, seen len0 anc (Yk8 past) (h.length + l.length), []⟩ :: past) ops :: k) (put fr d v) (h ++ l)) := by
  have := QYf (c := c) (k := k) (fr := fr) (len0 := len0) (n := n) (anc := anc) (past := past) (d := d) (ops := ops) (h := h) (l := l) vs v c0 anc' past' []
  simpa only [List.append_nil, List.length_nil, Nat.add_zero, List.all_nil, true_and] using this
theorem zUa (v : AV) (h' : List AB) (x : AV) : W c (.dld (some (v, h')) x len0 n anc past d ops :: k) fr h = ((if indA len0 anc past [] past = true then True else indL anc (idOf x) past = true) ∧ x.ok (qOk len0 0 0 anc past) = true ∧ v.ok (qOk len0 0 0 anc past) = true ∧ W c (.drw len0 (n + 1) (⟨n, 0, 0, idOf x, []⟩ :: past) ops :: k) (put fr d v) h) := by
 rw [← ZGy, ← Q7c]
 exact KvZ v h' x
theorem Qqb {n : Nat} (h : n ≤ 1000000) : (n ≤ maxLen) = True := eq_true (by unfold maxLen; omega)
end
def KIu := (And.intro (And.intro (And.intro (And.intro (And.intro (And.intro (And.intro @ZGX @YhU) (And.intro @YOS @ZKY)) (And.intro (And.intro @QSL @qwP) (And.intro @ZnH (And.intro @YBr @QeR)))) (And.intro (And.intro (And.intro @Km4 @KVl) (And.intro @X3E (And.intro @ZL7 @KuD))) (And.intro (And.intro @zoe @JXA) (And.intro @Qw4 (And.intro @K7G @zUa))))) (And.intro (And.intro (And.intro (And.intro @X8b @za8) (And.intro @Y4q @Z5t)) (And.intro (And.intro @YuL @XbE) (And.intro @z0G (And.intro @KPt @zpz)))) (And.intro (And.intro (And.intro @JUm @ZJi) (And.intro @ZGk (And.intro @Kpm @zgw))) (And.intro (And.intro @ZPA @Z4g) (And.intro @ZDu (And.intro @KdZ @YEa)))))) (And.intro (And.intro (And.intro (And.intro (And.intro @Kuo @YnF) (And.intro @QKF @qTx)) (And.intro (And.intro @K7M @YDN) (And.intro @JKW (And.intro @ZLt @YA2)))) (And.intro (And.intro (And.intro @JR5 @Xrv) (And.intro @Q7O (And.intro @YEd @X0V))) (And.intro (And.intro @Zat @QvS) (And.intro @JAL (And.intro @Xpi @zZg))))) (And.intro (And.intro (And.intro (And.intro @QD4 @ZuX) (And.intro @KMV (And.intro @QvA @zYO))) (And.intro (And.intro @ZYj @qfU) (And.intro @qRX (And.intro @QaH @QTM)))) (And.intro (And.intro (And.intro @YK8 @zaz) (And.intro @QQ7 (And.intro @zud @Z2p))) (And.intro (And.intro @QZu @qYN) (And.intro @ZYp (And.intro @z3q @Jmj))))))) (And.intro (And.intro (And.intro (And.intro (And.intro (And.intro @ok_i @ok_b) (And.intro @ok_s @JEQ)) (And.intro (And.intro @KYI @XYT) (And.intro @ok_p (And.intro @ok_y @ZsV)))) (And.intro (And.intro (And.intro @ok_f @Knd) (And.intro @qRZ (And.intro @XIo @Juy))) (And.intro (And.intro @qbk @qqd) (And.intro @QeI (And.intro @Yfy @zfD))))) (And.intro (And.intro (And.intro (And.intro @QW0 @z5U) (And.intro @Z3F (And.intro @any_cons @Zc6))) (And.intro (And.intro @JsJ @qSz) (And.intro @QOw (And.intro @KOI @ZZE)))) (And.intro (And.intro (And.intro @z5w @Ztb) (And.intro @K6H (And.intro @X2t @Tab.ws_nil))) (And.intro (And.intro @Tab.ws_cons @decide_true) (And.intro @decide_false (And.intro @Bool.or_true @Bool.or_false)))))) (And.intro (And.intro (And.intro (And.intro (And.intro @Bool.true_or @Bool.false_or) (And.intro @Bool.not_true @Bool.not_false)) (And.intro (And.intro @Xkl @ZUp) (And.intro @YwY (And.intro @KGQ @X8X)))) (And.intro (And.intro (And.intro @YSS @Q3u) (And.intro @X42 (And.intro @Kqj @QfG))) (And.intro (And.intro @KmL @QYf) (And.intro @ZJb (And.intro @Kgq @YtH))))) (And.intro (And.intro (And.intro (And.intro @ZdC @Yho) (And.intro @QkT (And.intro @YmW @Y0k))) (And.intro (And.intro @XTn @Jnz) (And.intro @z6s (And.intro @Ztj @Kqv)))) (And.intro (And.intro (And.intro @Z4k @Xs7) (And.intro @and_self (And.intro @false_and @and_false))) (And.intro (And.intro @or_true @true_or) (And.intro @false_or (And.intro @or_false @Qqb))))))))
end Go.Proofs.YthllkjhommnocaaDoor
end
section
namespace Go.Proofs.YthllkjhommnocaaDoor
open Go.RowKit
structure Kept (S : Nat → Prop) (w w' : World) : Prop where
 os : w'.os = w.os
 tape : w'.tape = w.tape
 output : w'.output = w.output
 size : w.heap.size ≤ w'.heap.size
 block : ∀ k, k < w.heap.size → ¬ S k → w'.heap[k]? = w.heap[k]?
def NoS : Nat → Prop := fun _ => False
theorem Kept.below {S : Nat → Prop} {B : Nat} {a b : World} (h : Kept S a b) (hB : B ≤ a.heap.size) (hs : ∀ k, k < a.heap.size → S k → B ≤ k) : Below B a b :=
 ⟨h.os, h.tape, h.output, h.size, fun k hk => h.block k (by omega) fun e => by have := hs k (by omega) e; omega⟩
section
variable {P : Program} (w : World)
end
end Go.Proofs.YthllkjhommnocaaDoor
end
section
namespace Go.Proofs.YthllkjhommnocaaDoor
open Go.RowKit
structure In (K : Code → CC → Prop) (ρ : Mp) (h : List AB) (w : World) : Prop where
 rel : Rel K ρ h w
 frz : ∀ B ∈ h, B.mut = false
variable {K : Code → CC → Prop} {ρ : Mp} {h : List AB} {w : World}
theorem In.nil (w : World) : In K [] [] w := ⟨⟨rfl, fun i B b o n h => by simp at h, fun i j bi oi bj oj Bi Bj _ h => by simp at h, GL.nil (JQY w)⟩, fun B h => by simp at h⟩
theorem JJB {P : Program} {g : Nat} {az : List AV} {vals : Array Value} {h' : List AB} (i : In (KC P) ρ h w) (hv : VL ρ az vals) (e : FnC P g az h (.b true) h') : Calls P g vals w (fun e w' => e = .returned (.bool true) ∧ Kept NoS w w') := by
 refine (e.2 ρ w vals i.rel hv).mono ?_
 rintro e w' ⟨v', ρ', rfl, hva, _, heff⟩
 cases hva
 refine ⟨rfl, heff.os, heff.tape, heff.output.1, heff.size, fun b hb _ => heff.keep b hb fun ⟨j, B, o, h1, h2, _⟩ => ?_⟩
 rw [i.frz B (List.mem_of_getElem? h1)] at h2
 cases h2
end Go.Proofs.YthllkjhommnocaaDoor
end
section
namespace Go.Proofs.YthllkjhommnocaaDoor
theorem Xov (a b : List UInt8) : (a == b) = decide (a = b) := by
 rw [Bool.eq_iff_iff]
 simp
theorem ZJO (a b : List UInt8) : binV .neq (.s a) (.s b) = some (.b (decide (¬ a = b))) := by
 show some (AV.b (!(a == b))) = _
 rw [Xov, decide_not]
theorem KHr (a b : List UInt8) : binV .eql (.s a) (.s b) = some (.b (decide (a = b))) := by
 show some (AV.b (a == b)) = _
 rw [Xov]
section
variable {α : Type}
end
end Go.Proofs.YthllkjhommnocaaDoor
end
